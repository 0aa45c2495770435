/- A sure cell; the level that a place wants, of the program and of the reference. -/
import Derived.Test.YtahfcfbmhdklbaaKc
import Derived.Test.YtahfcfbmhdklbaaSxz
namespace Go.Proofs.Ytahfcfbmhdklbaa.Fc
open Go.RowKit
open Sx (Env evF callF AS Known PF)
noncomputable def E28 : Env := { bs := AS.bds Sx.sureP.sh, sum := Sx.tabC (Kc.kT (AS.bds Sx.sureP.sh)), fns := [(28, Try.f28)] }
theorem E28Ok : E28.Ok Try.prog := Sx.fnsOk_of (l := E28.fns) ⟨⟨Try.func28, by kernel_rfl⟩, trivial⟩
theorem c28 : PF.Holds Try.prog Sx.sureP 28 := PF.of_run (E := E28) (n := 3000) (m := 8) Sx.sureP_ok (by kernel_rfl) Try.checked.mixed E28Ok (Sx.tabC_sound (Kc.kT_ok _)) (Sx.tabC_sure (Kc.kT_ok _)) rfl (by kernel_rfl)
noncomputable def E29 : Env := { bs := AS.bds Sx.sureP.sh, sum := Sx.tabC (Kc.kT (AS.bds Sx.sureP.sh)), fns := [(29, Try.f29)] }
theorem E29Ok : E29.Ok Try.prog := Sx.fnsOk_of (l := E29.fns) ⟨⟨Try.func29, by kernel_rfl⟩, trivial⟩
theorem c29 : PF.Holds Try.prog Sx.sureP 29 := PF.of_run (E := E29) (n := 3000) (m := 8) Sx.sureP_ok (by kernel_rfl) Try.checked.mixed E29Ok (Sx.tabC_sound (Kc.kT_ok _)) (Sx.tabC_sure (Kc.kT_ok _)) rfl (by kernel_rfl)
def uT (bs : Sx.Bds) : List (Nat × Known) := (28, PF.C Sx.sureP bs) :: (29, PF.C Sx.sureP bs) :: Kc.sT bs
theorem uT_ok (bs : Sx.Bds) : Sx.Entries Try.prog bs (uT bs) := ⟨PF.entry Sx.sureP_ok ⟨_, Try.func28, by kernel_rfl, by kernel_rfl⟩ c28, PF.entry Sx.sureP_ok ⟨_, Try.func29, by kernel_rfl, by kernel_rfl⟩ c29, Kc.sT_ok bs⟩
noncomputable def E11 : Env := { bs := AS.bds Sx.wantP.sh, sum := Sx.tabC (uT (AS.bds Sx.wantP.sh)), fns := [(11, Try.f11), (21, Try.f21), (22, Try.f22)] }
theorem E11Ok : E11.Ok Try.prog := Sx.fnsOk_of (l := E11.fns) ⟨⟨Try.func11, by kernel_rfl⟩, ⟨Try.func21, by kernel_rfl⟩, ⟨Try.func22, by kernel_rfl⟩, trivial⟩
theorem c11 : PF.Holds Try.prog Sx.wantP 11 := PF.of_run (E := E11) (n := 3000) (m := 8) Sx.wantP_ok (by kernel_rfl) Try.checked.mixed E11Ok (Sx.tabC_sound (uT_ok _)) (Sx.tabC_sure (uT_ok _)) rfl (by kernel_rfl)
noncomputable def E12 : Env := { bs := AS.bds Sx.wantP.sh, sum := Sx.tabC (uT (AS.bds Sx.wantP.sh)), fns := [(12, Try.f12), (23, Try.f23), (24, Try.f24)] }
theorem E12Ok : E12.Ok Try.prog := Sx.fnsOk_of (l := E12.fns) ⟨⟨Try.func12, by kernel_rfl⟩, ⟨Try.func23, by kernel_rfl⟩, ⟨Try.func24, by kernel_rfl⟩, trivial⟩
theorem c12 : PF.Holds Try.prog Sx.wantP 12 := PF.Holds.other (PF.of_run (E := E12) (n := 3000) (m := 8) Sx.firstP_ok (by kernel_rfl) Try.checked.mixed E12Ok (Sx.tabC_sound (uT_ok _)) (Sx.tabC_sure (uT_ok _)) rfl (by kernel_rfl))
def fT (bs : Sx.Bds) : List (Nat × Known) := (11, PF.C Sx.wantP bs) :: (12, PF.C Sx.wantP bs) :: uT bs
theorem fT_ok (bs : Sx.Bds) : Sx.Entries Try.prog bs (fT bs) := ⟨PF.entry Sx.wantP_ok ⟨_, Try.func11, by kernel_rfl, by kernel_rfl⟩ c11, PF.entry Sx.wantP_ok ⟨_, Try.func12, by kernel_rfl, by kernel_rfl⟩ c12, uT_ok bs⟩
theorem fT_sound (bs : Sx.Bds) : Sx.Callee.Sound Try.prog bs (Sx.tabC (fT bs)) := Sx.tabC_sound (fT_ok bs)
theorem fT_sure (bs : Sx.Bds) : Sx.Callee.Sure bs (Sx.tabC (fT bs)) := Sx.tabC_sure (fT_ok bs)
def gT (bs : Sx.Bds) : List (Nat × Known) := (11, PF.C Sx.dimP bs) :: (12, PF.C Sx.dimP bs) :: uT bs
theorem gT_ok (bs : Sx.Bds) : Sx.Entries Try.prog bs (gT bs) := ⟨PF.entry Sx.dimP_ok ⟨_, Try.func11, by kernel_rfl, by kernel_rfl⟩ c11.dim, PF.entry Sx.dimP_ok ⟨_, Try.func12, by kernel_rfl, by kernel_rfl⟩ c12.dim, uT_ok bs⟩
theorem gT_sound (bs : Sx.Bds) : Sx.Callee.Sound Try.prog bs (Sx.tabC (gT bs)) := Sx.tabC_sound (gT_ok bs)
theorem gT_sure (bs : Sx.Bds) : Sx.Callee.Sure bs (Sx.tabC (gT bs)) := Sx.tabC_sure (gT_ok bs)
def hT (bs : Sx.Bds) : List (Nat × Known) := (11, Sx.dimC bs) :: (12, Sx.dimC bs) :: uT bs
theorem hT_ok (bs : Sx.Bds) : Sx.Entries Try.prog bs (hT bs) := ⟨Sx.dimC_entry ⟨_, Try.func11, by kernel_rfl, by kernel_rfl⟩ c11, Sx.dimC_entry ⟨_, Try.func12, by kernel_rfl, by kernel_rfl⟩ c12, uT_ok bs⟩
theorem hT_sound (bs : Sx.Bds) : Sx.Callee.Sound Try.prog bs (Sx.tabC (hT bs)) := Sx.tabC_sound (hT_ok bs)
theorem hT_sure (bs : Sx.Bds) : Sx.Callee.Sure bs (Sx.tabC (hT bs)) := Sx.tabC_sure (hT_ok bs)
def jT (ks : List (Nat × Nat)) (bs : Sx.Bds) : List (Nat × Known) := (11, Sx.dimJ ks bs) :: (12, Sx.dimJ ks bs) :: uT bs
theorem jT_ok {ks : List (Nat × Nat)} {bs : Sx.Bds} (hJ : ∀ ρ : Sx.Val, bs.hold ρ → ∀ k ∈ ks, Sx.LeastJ k ρ) : Sx.Entries Try.prog bs (jT ks bs) := ⟨Sx.dimJ_entry hJ ⟨_, Try.func11, by kernel_rfl, by kernel_rfl⟩ c11, Sx.dimJ_entry hJ ⟨_, Try.func12, by kernel_rfl, by kernel_rfl⟩ c12, uT_ok bs⟩
-- KNOWN 28 29 11 12
end Go.Proofs.Ytahfcfbmhdklbaa.Fc
