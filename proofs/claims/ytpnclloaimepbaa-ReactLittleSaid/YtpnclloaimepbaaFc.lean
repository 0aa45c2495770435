/- A sure cell; the level that a place wants, of the program and of the reference. -/
import Derived.Test.YtpnclloaimepbaaKc
import Derived.Test.YtpnclloaimepbaaSxz
namespace Go.Proofs.Ytpnclloaimepbaa.Fc
open Go.RowKit
open Sx (Env evF callF AS Known PF)
noncomputable def E63 : Env := { bs := AS.bds Sx.sureP.sh, sum := Sx.tabC (Kc.kT (AS.bds Sx.sureP.sh)), fns := [(63, Try.f63)] }
theorem E63Ok : E63.Ok Try.prog := Sx.fnsOk_of (l := E63.fns) ⟨⟨Try.func63, by kernel_rfl⟩, trivial⟩
theorem c63 : PF.Holds Try.prog Sx.sureP 63 := PF.of_run (E := E63) (n := 3000) (m := 8) Sx.sureP_ok (by kernel_rfl) Try.checked.mixed E63Ok (Sx.tabC_sound (Kc.kT_ok _)) (Sx.tabC_sure (Kc.kT_ok _)) rfl (by kernel_rfl)
noncomputable def E65 : Env := { bs := AS.bds Sx.sureP.sh, sum := Sx.tabC (Kc.kT (AS.bds Sx.sureP.sh)), fns := [(65, Try.f65)] }
theorem E65Ok : E65.Ok Try.prog := Sx.fnsOk_of (l := E65.fns) ⟨⟨Try.func65, by kernel_rfl⟩, trivial⟩
theorem c65 : PF.Holds Try.prog Sx.sureP 65 := PF.of_run (E := E65) (n := 3000) (m := 8) Sx.sureP_ok (by kernel_rfl) Try.checked.mixed E65Ok (Sx.tabC_sound (Kc.kT_ok _)) (Sx.tabC_sure (Kc.kT_ok _)) rfl (by kernel_rfl)
noncomputable def E41 : Env := { bs := AS.bds Sx.sureP.sh, sum := Sx.tabC (Kc.kT (AS.bds Sx.sureP.sh)), fns := [(41, Try.f41)] }
theorem E41Ok : E41.Ok Try.prog := Sx.fnsOk_of (l := E41.fns) ⟨⟨Try.func41, by kernel_rfl⟩, trivial⟩
theorem c41 : PF.Holds Try.prog Sx.sureP 41 := PF.of_run (E := E41) (n := 3000) (m := 8) Sx.sureP_ok (by kernel_rfl) Try.checked.mixed E41Ok (Sx.tabC_sound (Kc.kT_ok _)) (Sx.tabC_sure (Kc.kT_ok _)) rfl (by kernel_rfl)
def uT (bs : Sx.Bds) : List (Nat × Known) := (63, PF.C Sx.sureP bs) :: (65, PF.C Sx.sureP bs) :: (41, PF.C Sx.sureP bs) :: Kc.sT bs
theorem uT_ok (bs : Sx.Bds) : Sx.Entries Try.prog bs (uT bs) := ⟨PF.entry Sx.sureP_ok ⟨_, Try.func63, by kernel_rfl, by kernel_rfl⟩ c63, PF.entry Sx.sureP_ok ⟨_, Try.func65, by kernel_rfl, by kernel_rfl⟩ c65, PF.entry Sx.sureP_ok ⟨_, Try.func41, by kernel_rfl, by kernel_rfl⟩ c41, Kc.sT_ok bs⟩
noncomputable def E39 : Env := { bs := AS.bds Sx.wantP.sh, sum := Sx.tabC (uT (AS.bds Sx.wantP.sh)), fns := [(39, Try.f39), (36, Try.f36), (37, Try.f37)] }
theorem E39Ok : E39.Ok Try.prog := Sx.fnsOk_of (l := E39.fns) ⟨⟨Try.func39, by kernel_rfl⟩, ⟨Try.func36, by kernel_rfl⟩, ⟨Try.func37, by kernel_rfl⟩, trivial⟩
theorem c39 : PF.Holds Try.prog Sx.wantP 39 := PF.of_run (E := E39) (n := 3000) (m := 8) Sx.wantP_ok (by kernel_rfl) Try.checked.mixed E39Ok (Sx.tabC_sound (uT_ok _)) (Sx.tabC_sure (uT_ok _)) rfl (by kernel_rfl)
noncomputable def E52 : Env := { bs := AS.bds Sx.wantP.sh, sum := Sx.tabC (uT (AS.bds Sx.wantP.sh)), fns := [(52, Try.f52), (51, Try.f51), (54, Try.f54)] }
theorem E52Ok : E52.Ok Try.prog := Sx.fnsOk_of (l := E52.fns) ⟨⟨Try.func52, by kernel_rfl⟩, ⟨Try.func51, by kernel_rfl⟩, ⟨Try.func54, by kernel_rfl⟩, trivial⟩
theorem c52 : PF.Holds Try.prog Sx.wantP 52 := PF.Holds.other (PF.of_run (E := E52) (n := 3000) (m := 8) Sx.firstP_ok (by kernel_rfl) Try.checked.mixed E52Ok (Sx.tabC_sound (uT_ok _)) (Sx.tabC_sure (uT_ok _)) rfl (by kernel_rfl))
def fT (bs : Sx.Bds) : List (Nat × Known) := (39, PF.C Sx.wantP bs) :: (52, PF.C Sx.wantP bs) :: uT bs
theorem fT_ok (bs : Sx.Bds) : Sx.Entries Try.prog bs (fT bs) := ⟨PF.entry Sx.wantP_ok ⟨_, Try.func39, by kernel_rfl, by kernel_rfl⟩ c39, PF.entry Sx.wantP_ok ⟨_, Try.func52, by kernel_rfl, by kernel_rfl⟩ c52, uT_ok bs⟩
theorem fT_sound (bs : Sx.Bds) : Sx.Callee.Sound Try.prog bs (Sx.tabC (fT bs)) := Sx.tabC_sound (fT_ok bs)
theorem fT_sure (bs : Sx.Bds) : Sx.Callee.Sure bs (Sx.tabC (fT bs)) := Sx.tabC_sure (fT_ok bs)
def gT (bs : Sx.Bds) : List (Nat × Known) := (39, PF.C Sx.dimP bs) :: (52, PF.C Sx.dimP bs) :: uT bs
theorem gT_ok (bs : Sx.Bds) : Sx.Entries Try.prog bs (gT bs) := ⟨PF.entry Sx.dimP_ok ⟨_, Try.func39, by kernel_rfl, by kernel_rfl⟩ c39.dim, PF.entry Sx.dimP_ok ⟨_, Try.func52, by kernel_rfl, by kernel_rfl⟩ c52.dim, uT_ok bs⟩
theorem gT_sound (bs : Sx.Bds) : Sx.Callee.Sound Try.prog bs (Sx.tabC (gT bs)) := Sx.tabC_sound (gT_ok bs)
theorem gT_sure (bs : Sx.Bds) : Sx.Callee.Sure bs (Sx.tabC (gT bs)) := Sx.tabC_sure (gT_ok bs)
def hT (bs : Sx.Bds) : List (Nat × Known) := (39, Sx.dimC bs) :: (52, Sx.dimC bs) :: uT bs
theorem hT_ok (bs : Sx.Bds) : Sx.Entries Try.prog bs (hT bs) := ⟨Sx.dimC_entry ⟨_, Try.func39, by kernel_rfl, by kernel_rfl⟩ c39, Sx.dimC_entry ⟨_, Try.func52, by kernel_rfl, by kernel_rfl⟩ c52, uT_ok bs⟩
theorem hT_sound (bs : Sx.Bds) : Sx.Callee.Sound Try.prog bs (Sx.tabC (hT bs)) := Sx.tabC_sound (hT_ok bs)
theorem hT_sure (bs : Sx.Bds) : Sx.Callee.Sure bs (Sx.tabC (hT bs)) := Sx.tabC_sure (hT_ok bs)
def jT (ks : List (Nat × Nat)) (bs : Sx.Bds) : List (Nat × Known) := (39, Sx.dimJ ks bs) :: (52, Sx.dimJ ks bs) :: uT bs
theorem jT_ok {ks : List (Nat × Nat)} {bs : Sx.Bds} (hJ : ∀ ρ : Sx.Val, bs.hold ρ → ∀ k ∈ ks, Sx.LeastJ k ρ) : Sx.Entries Try.prog bs (jT ks bs) := ⟨Sx.dimJ_entry hJ ⟨_, Try.func39, by kernel_rfl, by kernel_rfl⟩ c39, Sx.dimJ_entry hJ ⟨_, Try.func52, by kernel_rfl, by kernel_rfl⟩ c52, uT_ok bs⟩
-- KNOWN 63 65 41 39 52
end Go.Proofs.Ytpnclloaimepbaa.Fc
