/- What the functions of the kinds come to, for every number; and that the small worlds hold. -/
import Derived.Test.YtmgiabehooghcaaRows
import Derived.Test.YtmgiabehooghcaaSxx
namespace Go.Proofs.Ytmgiabehooghcaa.Kc
open Go.RowKit
open Sx (Env evF callF AS Known)
noncomputable def fns : List (Nat × Func) := [(18, Try.f18), (27, Try.f27), (30, Try.f30), (31, Try.f31), (36, Try.f36), (39, Try.f39), (42, Try.f42), (43, Try.f43), (44, Try.f44)]
theorem fnsOk : Sx.fnsOk Try.prog fns := ⟨⟨Try.func18, by kernel_rfl⟩, ⟨Try.func27, by kernel_rfl⟩, ⟨Try.func30, by kernel_rfl⟩, ⟨Try.func31, by kernel_rfl⟩, ⟨Try.func36, by kernel_rfl⟩, ⟨Try.func39, by kernel_rfl⟩, ⟨Try.func42, by kernel_rfl⟩, ⟨Try.func43, by kernel_rfl⟩, ⟨Try.func44, by kernel_rfl⟩, trivial⟩
noncomputable def E1 : Env := { bs := AS.bds Sx.a1, fns := fns, keep := true }
noncomputable def E2 : Env := { bs := AS.bds Sx.a2, fns := fns, keep := true }
theorem c18 : Sx.I2 Try.prog 18 0 := Sx.i2_of (E := E2) (n := 3000) Try.checked.mixed (Sx.ok_of fnsOk rfl rfl) (Sx.none_sound _ _) (Sx.none_sure _) rfl (by kernel_rfl)
theorem c27 : Sx.I2 Try.prog 27 0 := Sx.i2_of (E := E2) (n := 3000) Try.checked.mixed (Sx.ok_of fnsOk rfl rfl) (Sx.none_sound _ _) (Sx.none_sure _) rfl (by kernel_rfl)
theorem c30 : Sx.B2 Try.prog 30 0 := Sx.b2_of (E := E2) (n := 3000) Try.checked.mixed (Sx.ok_of fnsOk rfl rfl) (Sx.none_sound _ _) (Sx.none_sure _) rfl (by kernel_rfl)
theorem c31 : Sx.B1 Try.prog 31 0 := Sx.b1_of (E := E1) (n := 3000) Try.checked.mixed (Sx.ok_of fnsOk rfl rfl) (Sx.none_sound _ _) (Sx.none_sure _) rfl (by kernel_rfl)
theorem c36 : Sx.B2 Try.prog 36 0 := Sx.b2_of (E := E2) (n := 3000) Try.checked.mixed (Sx.ok_of fnsOk rfl rfl) (Sx.none_sound _ _) (Sx.none_sure _) rfl (by kernel_rfl)
theorem c42 : Sx.I1 Try.prog 42 0 := Sx.i1_of (E := E1) (n := 3000) Try.checked.mixed (Sx.ok_of fnsOk rfl rfl) (Sx.none_sound _ _) (Sx.none_sure _) rfl (by kernel_rfl)
theorem c43 : Sx.B1 Try.prog 43 0 := Sx.b1_of (E := E1) (n := 3000) Try.checked.mixed (Sx.ok_of fnsOk rfl rfl) (Sx.none_sound _ _) (Sx.none_sure _) rfl (by kernel_rfl)
def kT (bs : Sx.Bds) : List (Nat × Known) := [(18, Sx.i2C bs 0), (27, Sx.i2C bs 0), (30, Sx.b2C bs 0), (31, Sx.b1C bs 0), (36, Sx.b2C bs 0), (42, Sx.i1C bs 0), (43, Sx.b1C bs 0)]
theorem kT_ok (bs : Sx.Bds) : Sx.Entries Try.prog bs (kT bs) := ⟨Sx.i2C_entry ⟨_, Try.func18, by kernel_rfl, by kernel_rfl⟩ c18, Sx.i2C_entry ⟨_, Try.func27, by kernel_rfl, by kernel_rfl⟩ c27, Sx.b2C_entry ⟨_, Try.func30, by kernel_rfl, by kernel_rfl⟩ c30, Sx.b1C_entry ⟨_, Try.func31, by kernel_rfl, by kernel_rfl⟩ c31, Sx.b2C_entry ⟨_, Try.func36, by kernel_rfl, by kernel_rfl⟩ c36, Sx.i1C_entry ⟨_, Try.func42, by kernel_rfl, by kernel_rfl⟩ c42, Sx.b1C_entry ⟨_, Try.func43, by kernel_rfl, by kernel_rfl⟩ c43, trivial⟩
def sT (bs : Sx.Bds) : List (Nat × Known) := kT bs
theorem sT_ok (bs : Sx.Bds) : Sx.Entries Try.prog bs (sT bs) := kT_ok bs
theorem sT_sound (bs : Sx.Bds) : Sx.Callee.Sound Try.prog bs (Sx.tabC (sT bs)) := Sx.tabC_sound (sT_ok bs)
theorem sT_sure (bs : Sx.Bds) : Sx.Callee.Sure bs (Sx.tabC (sT bs)) := Sx.tabC_sure (sT_ok bs)
end Go.Proofs.Ytmgiabehooghcaa.Kc
