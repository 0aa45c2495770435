/- What the functions of the kinds come to, for every number; and that the small worlds hold. -/
import Derived.Test.YtdkdoopimfchbaaRows
import Derived.Test.YtdkdoopimfchbaaSxx
namespace Go.Proofs.Ytdkdoopimfchbaa.Kc
open Go.RowKit
open Sx (Env evF callF AS Known)
noncomputable def fns : List (Nat × Func) := [(20, Try.f20), (21, Try.f21), (22, Try.f22), (23, Try.f23), (25, Try.f25), (31, Try.f31), (32, Try.f32), (33, Try.f33), (34, Try.f34), (35, Try.f35), (36, Try.f36)]
theorem fnsOk : Sx.fnsOk Try.prog fns := ⟨⟨Try.func20, by kernel_rfl⟩, ⟨Try.func21, by kernel_rfl⟩, ⟨Try.func22, by kernel_rfl⟩, ⟨Try.func23, by kernel_rfl⟩, ⟨Try.func25, by kernel_rfl⟩, ⟨Try.func31, by kernel_rfl⟩, ⟨Try.func32, by kernel_rfl⟩, ⟨Try.func33, by kernel_rfl⟩, ⟨Try.func34, by kernel_rfl⟩, ⟨Try.func35, by kernel_rfl⟩, ⟨Try.func36, by kernel_rfl⟩, trivial⟩
noncomputable def E1 : Env := { bs := AS.bds Sx.a1, fns := fns, keep := true }
noncomputable def E2 : Env := { bs := AS.bds Sx.a2, fns := fns, keep := true }
theorem c20 : Sx.B1 Try.prog 20 1 := Sx.b1_of (E := E1) (n := 3000) Try.checked.mixed (Sx.ok_of fnsOk rfl rfl) (Sx.none_sound _ _) (Sx.none_sure _) rfl (by kernel_rfl)
theorem c21 : Sx.B1 Try.prog 21 2 := Sx.b1_of (E := E1) (n := 3000) Try.checked.mixed (Sx.ok_of fnsOk rfl rfl) (Sx.none_sound _ _) (Sx.none_sure _) rfl (by kernel_rfl)
theorem c22 : Sx.B2 Try.prog 22 0 := Sx.b2_of (E := E2) (n := 3000) Try.checked.mixed (Sx.ok_of fnsOk rfl rfl) (Sx.none_sound _ _) (Sx.none_sure _) rfl (by kernel_rfl)
theorem c23 : Sx.B1 Try.prog 23 4 := Sx.b1_of (E := E1) (n := 3000) Try.checked.mixed (Sx.ok_of fnsOk rfl rfl) (Sx.none_sound _ _) (Sx.none_sure _) rfl (by kernel_rfl)
theorem c25 : Sx.B1 Try.prog 25 2 := Sx.b1_of (E := E1) (n := 3000) Try.checked.mixed (Sx.ok_of fnsOk rfl rfl) (Sx.none_sound _ _) (Sx.none_sure _) rfl (by kernel_rfl)
theorem c31 : Sx.B1 Try.prog 31 1 := Sx.b1_of (E := E1) (n := 3000) Try.checked.mixed (Sx.ok_of fnsOk rfl rfl) (Sx.none_sound _ _) (Sx.none_sure _) rfl (by kernel_rfl)
theorem c34 : Sx.B2 Try.prog 34 0 := Sx.b2_of (E := E2) (n := 3000) Try.checked.mixed (Sx.ok_of fnsOk rfl rfl) (Sx.none_sound _ _) (Sx.none_sure _) rfl (by kernel_rfl)
theorem c35 : Sx.B1 Try.prog 35 4 := Sx.b1_of (E := E1) (n := 3000) Try.checked.mixed (Sx.ok_of fnsOk rfl rfl) (Sx.none_sound _ _) (Sx.none_sure _) rfl (by kernel_rfl)
theorem c36 : Sx.I1 Try.prog 36 0 := Sx.i1_of (E := E1) (n := 3000) Try.checked.mixed (Sx.ok_of fnsOk rfl rfl) (Sx.none_sound _ _) (Sx.none_sure _) rfl (by kernel_rfl)
def kT (bs : Sx.Bds) : List (Nat × Known) := [(20, Sx.b1C bs 1), (21, Sx.b1C bs 2), (22, Sx.b2C bs 0), (23, Sx.b1C bs 4), (25, Sx.b1C bs 2), (31, Sx.b1C bs 1), (34, Sx.b2C bs 0), (35, Sx.b1C bs 4), (36, Sx.i1C bs 0)]
theorem kT_ok (bs : Sx.Bds) : Sx.Entries Try.prog bs (kT bs) := ⟨Sx.b1C_entry ⟨_, Try.func20, by kernel_rfl, by kernel_rfl⟩ c20, Sx.b1C_entry ⟨_, Try.func21, by kernel_rfl, by kernel_rfl⟩ c21, Sx.b2C_entry ⟨_, Try.func22, by kernel_rfl, by kernel_rfl⟩ c22, Sx.b1C_entry ⟨_, Try.func23, by kernel_rfl, by kernel_rfl⟩ c23, Sx.b1C_entry ⟨_, Try.func25, by kernel_rfl, by kernel_rfl⟩ c25, Sx.b1C_entry ⟨_, Try.func31, by kernel_rfl, by kernel_rfl⟩ c31, Sx.b2C_entry ⟨_, Try.func34, by kernel_rfl, by kernel_rfl⟩ c34, Sx.b1C_entry ⟨_, Try.func35, by kernel_rfl, by kernel_rfl⟩ c35, Sx.i1C_entry ⟨_, Try.func36, by kernel_rfl, by kernel_rfl⟩ c36, trivial⟩
noncomputable def E0 : Env := { bs := {}, sum := Sx.tabC (kT {}), fns := [(3, Try.f3), (4, Try.f4), (5, Try.f5), (6, Try.f6), (7, Try.f7), (8, Try.f8), (9, Try.f9), (10, Try.f10), (11, Try.f11), (12, Try.f12), (13, Try.f13), (14, Try.f14), (15, Try.f15), (16, Try.f16), (17, Try.f17), (18, Try.f18), (19, Try.f19), (24, Try.f24), (26, Try.f26), (27, Try.f27), (28, Try.f28), (29, Try.f29), (30, Try.f30), (32, Try.f32), (33, Try.f33)] }
theorem e0Ok : E0.Ok Try.prog := Sx.ok_of (E := E0) ⟨⟨Try.func3, by kernel_rfl⟩, ⟨Try.func4, by kernel_rfl⟩, ⟨Try.func5, by kernel_rfl⟩, ⟨Try.func6, by kernel_rfl⟩, ⟨Try.func7, by kernel_rfl⟩, ⟨Try.func8, by kernel_rfl⟩, ⟨Try.func9, by kernel_rfl⟩, ⟨Try.func10, by kernel_rfl⟩, ⟨Try.func11, by kernel_rfl⟩, ⟨Try.func12, by kernel_rfl⟩, ⟨Try.func13, by kernel_rfl⟩, ⟨Try.func14, by kernel_rfl⟩, ⟨Try.func15, by kernel_rfl⟩, ⟨Try.func16, by kernel_rfl⟩, ⟨Try.func17, by kernel_rfl⟩, ⟨Try.func18, by kernel_rfl⟩, ⟨Try.func19, by kernel_rfl⟩, ⟨Try.func24, by kernel_rfl⟩, ⟨Try.func26, by kernel_rfl⟩, ⟨Try.func27, by kernel_rfl⟩, ⟨Try.func28, by kernel_rfl⟩, ⟨Try.func29, by kernel_rfl⟩, ⟨Try.func30, by kernel_rfl⟩, ⟨Try.func32, by kernel_rfl⟩, ⟨Try.func33, by kernel_rfl⟩, trivial⟩ rfl rfl
theorem c11 : Sx.Sane Try.prog 11 := Sx.sane_of (E := E0) (n := 3000) Try.checked.mixed e0Ok (Sx.tabC_sound (kT_ok _)) (Sx.tabC_sure (kT_ok _)) (by kernel_rfl) rfl
def sT (bs : Sx.Bds) : List (Nat × Known) := (11, Sx.trueC) :: kT bs
theorem sT_ok (bs : Sx.Bds) : Sx.Entries Try.prog bs (sT bs) := ⟨Sx.trueC_entry ⟨_, Try.func11, by kernel_rfl, by kernel_rfl⟩ c11, kT_ok bs⟩
theorem sT_sound (bs : Sx.Bds) : Sx.Callee.Sound Try.prog bs (Sx.tabC (sT bs)) := Sx.tabC_sound (sT_ok bs)
theorem sT_sure (bs : Sx.Bds) : Sx.Callee.Sure bs (Sx.tabC (sT bs)) := Sx.tabC_sure (sT_ok bs)
end Go.Proofs.Ytdkdoopimfchbaa.Kc
