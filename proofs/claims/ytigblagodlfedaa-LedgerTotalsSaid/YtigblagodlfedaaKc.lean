/- What the functions of the kinds come to, for every number; and that the small worlds hold. -/
import Derived.Test.YtigblagodlfedaaRows
import Derived.Test.YtigblagodlfedaaSxx
namespace Go.Proofs.Ytigblagodlfedaa.Kc
open Go.RowKit
open Sx (Env evF callF AS Known)
noncomputable def fns : List (Nat × Func) := [(15, Try.f15), (29, Try.f29), (31, Try.f31), (39, Try.f39)]
theorem fnsOk : Sx.fnsOk Try.prog fns := ⟨⟨Try.func15, by kernel_rfl⟩, ⟨Try.func29, by kernel_rfl⟩, ⟨Try.func31, by kernel_rfl⟩, ⟨Try.func39, by kernel_rfl⟩, trivial⟩
noncomputable def E1 : Env := { bs := AS.bds Sx.a1, fns := fns, keep := true }
noncomputable def E2 : Env := { bs := AS.bds Sx.a2, fns := fns, keep := true }
theorem c15 : Sx.B1 Try.prog 15 1 := Sx.b1_of (E := E1) (n := 3000) Try.checked.mixed (Sx.ok_of fnsOk rfl rfl) (Sx.none_sound _ _) (Sx.none_sure _) rfl (by kernel_rfl)
theorem c29 : Sx.B1 Try.prog 29 1 := Sx.b1_of (E := E1) (n := 3000) Try.checked.mixed (Sx.ok_of fnsOk rfl rfl) (Sx.none_sound _ _) (Sx.none_sure _) rfl (by kernel_rfl)
def kT (bs : Sx.Bds) : List (Nat × Known) := [(15, Sx.b1C bs 1), (29, Sx.b1C bs 1)]
theorem kT_ok (bs : Sx.Bds) : Sx.Entries Try.prog bs (kT bs) := ⟨Sx.b1C_entry ⟨_, Try.func15, by kernel_rfl, by kernel_rfl⟩ c15, Sx.b1C_entry ⟨_, Try.func29, by kernel_rfl, by kernel_rfl⟩ c29, trivial⟩
def sT (bs : Sx.Bds) : List (Nat × Known) := kT bs
theorem sT_ok (bs : Sx.Bds) : Sx.Entries Try.prog bs (sT bs) := kT_ok bs
theorem sT_sound (bs : Sx.Bds) : Sx.Callee.Sound Try.prog bs (Sx.tabC (sT bs)) := Sx.tabC_sound (sT_ok bs)
theorem sT_sure (bs : Sx.Bds) : Sx.Callee.Sure bs (Sx.tabC (sT bs)) := Sx.tabC_sure (sT_ok bs)
end Go.Proofs.Ytigblagodlfedaa.Kc
