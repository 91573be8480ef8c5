/- The types of this program's functions, part 2 -/
import Derived.Test.YtkjhkbolchkkhaaDoorProg
import Derived.Test.YtkjhkbolchkkhaaDoorS1
set_option linter.all false
section
namespace Go.Proofs.S19
open Go Go.Ab Go.Proofs
def tys : List Nat := [3, 4, 5, 9, 21, 22, 23, 25, 28, 29, 42, 46, 47, 49, 54, 56, 61, 63, 67, 69, 73, 79, 80, 83, 86, 89, 96, 98]
def eqs : List Nat := [46]
noncomputable def tau : TT := tauOf Tryd.prog eqs tys
theorem tau_chk : tauChk Tryd.prog tys = true := by kernel_rfl
theorem tau3 : tau 3 = some ⟨Go.TypeDesc.int Go.IntKind.i64, 1, 8, Go.Value.int Go.IntKind.i64 0, false⟩ := by kernel_rfl
theorem tau4 : tau 4 = some ⟨Go.TypeDesc.bool, 1, 1, Go.Value.bool Bool.false, false⟩ := by kernel_rfl
theorem tau5 : tau 5 = some ⟨Go.TypeDesc.int Go.IntKind.u8, 1, 1, Go.Value.int Go.IntKind.u8 0, false⟩ := by kernel_rfl
theorem tau9 : tau 9 = some ⟨Go.TypeDesc.string, 1, 16, Go.Value.string { data := #[] }, false⟩ := by kernel_rfl
theorem tau21 : tau 21 = some ⟨Go.TypeDesc.int Go.IntKind.i32, 1, 4, Go.Value.int Go.IntKind.i32 0, false⟩ := by kernel_rfl
theorem tau22 : tau 22 = some ⟨Go.TypeDesc.slice 49, 1, 24, Go.Value.slice Option.none 0 0, false⟩ := by kernel_rfl
theorem tau23 : tau 23 = some ⟨Go.TypeDesc.slice 3, 1, 24, Go.Value.slice Option.none 0 0, false⟩ := by kernel_rfl
theorem tau25 : tau 25 = some ⟨Go.TypeDesc.struct #[{ name := "Code", type := 22, offset := 0, embedded := Bool.false, tag := "", pkgPath := "", byteOffset := 0 }, { name := "Starts", type := 23, offset := 1, embedded := Bool.false, tag := "", pkgPath := "", byteOffset := 24 }, { name := "Slots", type := 23, offset := 2, embedded := Bool.false, tag := "", pkgPath := "", byteOffset := 48 }], 3, 72, Go.Value.agg #[Go.Value.slice Option.none 0 0, Go.Value.slice Option.none 0 0, Go.Value.slice Option.none 0 0], false⟩ := by kernel_rfl
theorem tau28 : tau 28 = some ⟨Go.TypeDesc.slice 5, 1, 24, Go.Value.slice Option.none 0 0, false⟩ := by kernel_rfl
theorem tau29 : tau 29 = some ⟨Go.TypeDesc.int Go.IntKind.i64, 1, 8, Go.Value.int Go.IntKind.i64 0, false⟩ := by kernel_rfl
theorem tau42 : tau 42 = some ⟨Go.TypeDesc.int Go.IntKind.u16, 1, 2, Go.Value.int Go.IntKind.u16 0, false⟩ := by kernel_rfl
theorem tau46 : tau 46 = some ⟨Go.TypeDesc.struct #[{ name := "Kind", type := 3, offset := 0, embedded := Bool.false, tag := "", pkgPath := "", byteOffset := 0 }, { name := "N", type := 3, offset := 1, embedded := Bool.false, tag := "", pkgPath := "", byteOffset := 8 }], 2, 16, Go.Value.agg #[Go.Value.int Go.IntKind.i64 0, Go.Value.int Go.IntKind.i64 0], true⟩ := by kernel_rfl
theorem tau47 : tau 47 = some ⟨Go.TypeDesc.slice 46, 1, 24, Go.Value.slice Option.none 0 0, false⟩ := by kernel_rfl
theorem tau49 : tau 49 = some ⟨Go.TypeDesc.struct #[{ name := "Op", type := 3, offset := 0, embedded := Bool.false, tag := "", pkgPath := "", byteOffset := 0 }, { name := "D", type := 46, offset := 1, embedded := Bool.false, tag := "", pkgPath := "", byteOffset := 8 }, { name := "A", type := 46, offset := 3, embedded := Bool.false, tag := "", pkgPath := "", byteOffset := 24 }, { name := "B", type := 46, offset := 5, embedded := Bool.false, tag := "", pkgPath := "", byteOffset := 40 }, { name := "C", type := 46, offset := 7, embedded := Bool.false, tag := "", pkgPath := "", byteOffset := 56 }, { name := "N", type := 3, offset := 9, embedded := Bool.false, tag := "", pkgPath := "", byteOffset := 72 }, { name := "M", type := 3, offset := 10, embedded := Bool.false, tag := "", pkgPath := "", byteOffset := 80 }, { name := "Args", type := 47, offset := 11, embedded := Bool.false, tag := "", pkgPath := "", byteOffset := 88 }], 12, 112, Go.Value.agg #[Go.Value.int Go.IntKind.i64 0, Go.Value.int Go.IntKind.i64 0, Go.Value.int Go.IntKind.i64 0, Go.Value.int Go.IntKind.i64 0, Go.Value.int Go.IntKind.i64 0, Go.Value.int Go.IntKind.i64 0, Go.Value.int Go.IntKind.i64 0, Go.Value.int Go.IntKind.i64 0, Go.Value.int Go.IntKind.i64 0, Go.Value.int Go.IntKind.i64 0, Go.Value.int Go.IntKind.i64 0, Go.Value.slice Option.none 0 0], false⟩ := by kernel_rfl
theorem tau54 : tau 54 = some ⟨Go.TypeDesc.pointer 46, 1, 8, Go.Value.pointer Option.none, false⟩ := by kernel_rfl
theorem tau56 : tau 56 = some ⟨Go.TypeDesc.pointer 49, 1, 8, Go.Value.pointer Option.none, false⟩ := by kernel_rfl
theorem tau61 : tau 61 = some ⟨Go.TypeDesc.struct #[{ name := "from", type := 3, offset := 0, embedded := Bool.false, tag := "", pkgPath := "portolan/text", byteOffset := 0 }, { name := "to", type := 3, offset := 1, embedded := Bool.false, tag := "", pkgPath := "portolan/text", byteOffset := 8 }, { name := "slots", type := 3, offset := 2, embedded := Bool.false, tag := "", pkgPath := "portolan/text", byteOffset := 16 }, { name := "funcs", type := 3, offset := 3, embedded := Bool.false, tag := "", pkgPath := "portolan/text", byteOffset := 24 }], 4, 32, Go.Value.agg #[Go.Value.int Go.IntKind.i64 0, Go.Value.int Go.IntKind.i64 0, Go.Value.int Go.IntKind.i64 0, Go.Value.int Go.IntKind.i64 0], false⟩ := by kernel_rfl
theorem tau63 : tau 63 = some ⟨Go.TypeDesc.func #[49] #[4] Bool.false, 1, 8, Go.Value.nilFunc, false⟩ := by kernel_rfl
theorem tau67 : tau 67 = some ⟨Go.TypeDesc.pointer 69, 1, 8, Go.Value.pointer Option.none, false⟩ := by kernel_rfl
theorem tau69 : tau 69 = some ⟨Go.TypeDesc.struct #[{ name := "b", type := 28, offset := 0, embedded := Bool.false, tag := "", pkgPath := "portolan/text", byteOffset := 0 }, { name := "err", type := 29, offset := 1, embedded := Bool.false, tag := "", pkgPath := "portolan/text", byteOffset := 24 }], 2, 32, Go.Value.agg #[Go.Value.slice Option.none 0 0, Go.Value.int Go.IntKind.i64 0], false⟩ := by kernel_rfl
theorem tau73 : tau 73 = some ⟨Go.TypeDesc.struct #[{ name := "b", type := 28, offset := 0, embedded := Bool.false, tag := "", pkgPath := "portolan/portolanref19", byteOffset := 0 }, { name := "err", type := 29, offset := 1, embedded := Bool.false, tag := "", pkgPath := "portolan/portolanref19", byteOffset := 24 }], 2, 32, Go.Value.agg #[Go.Value.slice Option.none 0 0, Go.Value.int Go.IntKind.i64 0], false⟩ := by kernel_rfl
theorem tau79 : tau 79 = some ⟨Go.TypeDesc.int Go.IntKind.u64, 1, 8, Go.Value.int Go.IntKind.u64 0, false⟩ := by kernel_rfl
theorem tau80 : tau 80 = some ⟨Go.TypeDesc.int Go.IntKind.u64, 1, 8, Go.Value.int Go.IntKind.u64 0, false⟩ := by kernel_rfl
theorem tau83 : tau 83 = some ⟨Go.TypeDesc.array 24 9, 24, 384, Go.Value.agg #[Go.Value.string { data := #[] }, Go.Value.string { data := #[] }, Go.Value.string { data := #[] }, Go.Value.string { data := #[] }, Go.Value.string { data := #[] }, Go.Value.string { data := #[] }, Go.Value.string { data := #[] }, Go.Value.string { data := #[] }, Go.Value.string { data := #[] }, Go.Value.string { data := #[] }, Go.Value.string { data := #[] }, Go.Value.string { data := #[] }, Go.Value.string { data := #[] }, Go.Value.string { data := #[] }, Go.Value.string { data := #[] }, Go.Value.string { data := #[] }, Go.Value.string { data := #[] }, Go.Value.string { data := #[] }, Go.Value.string { data := #[] }, Go.Value.string { data := #[] }, Go.Value.string { data := #[] }, Go.Value.string { data := #[] }, Go.Value.string { data := #[] }, Go.Value.string { data := #[] }], false⟩ := by kernel_rfl
theorem tau86 : tau 86 = some ⟨Go.TypeDesc.func #[46] #[4] Bool.false, 1, 8, Go.Value.nilFunc, false⟩ := by kernel_rfl
theorem tau89 : tau 89 = some ⟨Go.TypeDesc.func #[3, 9] #[4] Bool.false, 1, 8, Go.Value.nilFunc, false⟩ := by kernel_rfl
theorem tau96 : tau 96 = some ⟨Go.TypeDesc.func #[28] #[3, 3, 29] Bool.false, 1, 8, Go.Value.nilFunc, false⟩ := by kernel_rfl
theorem tau98 : tau 98 = some ⟨Go.TypeDesc.pointer 73, 1, 8, Go.Value.pointer Option.none, false⟩ := by kernel_rfl
def gam : GT := fun g => if g = 0 then some (List.map Value.string Go.Pf.partsL) else none
noncomputable def Lx (γ : GT) : Lg := ⟨Tryd.prog, tau, gam⟩
theorem gam0 : gam 0 = some (List.map Value.string Go.Pf.partsL) := rfl
theorem mixed : Tryd.prog.follows .mixedOrders = true := by kernel_rfl
theorem eqs_ok : ∀ T ∈ eqs, EqTy Tryd.prog T := fun T h => EqTy.flat (by
  have : eqs.all (fun T => flatTy Tryd.prog T) = true := by kernel_rfl
  exact List.all_eq_true.1 this T h)
theorem tau_ok : Agree Tryd.prog tau := by unfold tau; exact Agree.of tau_chk eqs_ok
theorem lx_ok (γ : GT) : Ok (Lx γ) where
  agree := tau_ok
  mixed := mixed
theorem Lxτ (γ : GT) : (Lx γ).τ = tau := rfl
theorem Lxγ (γ : GT) : (Lx γ).γ = gam := rfl
end Go.Proofs.S19
end
