/- The rule of a kind and its delay, number by number. -/
import Derived.Test.YtpnclloaimepbaaFc
namespace Go.Proofs.Ytpnclloaimepbaa.Rc
open Go.RowKit
open Sx (Env evF callF AS Known PF MV)
def ofD : MV := .agg [.int .u8 (.lit 0), .int .i64 (.lit 0), .fn 59 []]
def ofL : List (Int × MV) := [(4, .agg [.int .u8 (.lit 4), .int .i64 (.lit 1), .fn 20 []]), (5, .agg [.int .u8 (.lit 5), .int .i64 (.lit 1), .fn 20 []]), (8, .agg [.int .u8 (.lit 8), .int .i64 (.lit 1), .fn 20 []]), (13, .agg [.int .u8 (.lit 13), .int .i64 (.lit 2), .fn 21 []]), (14, .agg [.int .u8 (.lit 14), .int .i64 (.lit 3), .fn 22 []]), (12, .agg [.int .u8 (.lit 12), .int .i64 (.lit 5), .fn 23 []])]
def dlD : MV := .c (.int .i64 (.lit 0))
def dlL : List (Int × MV) := [(4, .c (.int .i64 (.lit 1))), (5, .c (.int .i64 (.lit 1))), (8, .c (.int .i64 (.lit 1))), (13, .c (.int .i64 (.lit 2))), (14, .c (.int .i64 (.lit 3))), (12, .c (.int .i64 (.lit 5)))]
noncomputable def E30 : Env := { bs := AS.bds Sx.a1, fns := [(30, Try.f30)], keep := true }
theorem E30Ok : E30.Ok Try.prog := Sx.fnsOk_of (l := E30.fns) ⟨⟨Try.func30, by kernel_rfl⟩, trivial⟩
theorem c30 : Sx.Cases Try.prog 30 ofD ofL := Sx.cases_of (E := E30) (n := 3000) Try.checked.mixed E30Ok (Sx.none_sound _ _) (Sx.none_sure _) rfl (by kernel_rfl) (by kernel_rfl) (by kernel_rfl)
noncomputable def E11 : Env := { bs := AS.bds Sx.a1, fns := [(11, Try.f11), (30, Try.f30)], keep := true }
theorem E11Ok : E11.Ok Try.prog := Sx.fnsOk_of (l := E11.fns) ⟨⟨Try.func11, by kernel_rfl⟩, ⟨Try.func30, by kernel_rfl⟩, trivial⟩
theorem c11 : Sx.Cases Try.prog 11 dlD dlL := Sx.cases_of (E := E11) (n := 3000) Try.checked.mixed E11Ok (Sx.none_sound _ _) (Sx.none_sure _) rfl (by kernel_rfl) (by kernel_rfl) (by kernel_rfl)
noncomputable def E12 : Env := { bs := AS.bds Sx.a1, fns := [(12, Try.f12)], keep := true }
theorem E12Ok : E12.Ok Try.prog := Sx.fnsOk_of (l := E12.fns) ⟨⟨Try.func12, by kernel_rfl⟩, trivial⟩
theorem c12 : Sx.Cases Try.prog 12 dlD dlL := Sx.cases_of (E := E12) (n := 3000) Try.checked.mixed E12Ok (Sx.none_sound _ _) (Sx.none_sure _) rfl (by kernel_rfl) (by kernel_rfl) (by kernel_rfl)
def rT (bs : Sx.Bds) : List (Nat × Known) := (30, Sx.caseC bs ofD ofL) :: (11, Sx.caseC bs dlD dlL) :: (12, Sx.caseC bs dlD dlL) :: Fc.gT bs
theorem rT_ok (bs : Sx.Bds) : Sx.Entries Try.prog bs (rT bs) := ⟨Sx.caseC_entry ⟨_, Try.func30, by kernel_rfl, by kernel_rfl⟩ (by kernel_rfl) c30, Sx.caseC_entry ⟨_, Try.func11, by kernel_rfl, by kernel_rfl⟩ (by kernel_rfl) c11, Sx.caseC_entry ⟨_, Try.func12, by kernel_rfl, by kernel_rfl⟩ (by kernel_rfl) c12, Fc.gT_ok bs⟩
theorem rT_sound (bs : Sx.Bds) : Sx.Callee.Sound Try.prog bs (Sx.tabC (rT bs)) := Sx.tabC_sound (rT_ok bs)
theorem rT_sure (bs : Sx.Bds) : Sx.Callee.Sure bs (Sx.tabC (rT bs)) := Sx.tabC_sure (rT_ok bs)
def jT (ks : List (Nat × Nat)) (bs : Sx.Bds) : List (Nat × Known) := (30, Sx.caseC bs ofD ofL) :: (11, Sx.caseC bs dlD dlL) :: (12, Sx.caseC bs dlD dlL) :: Fc.jT ks bs
theorem jT_ok {ks : List (Nat × Nat)} {bs : Sx.Bds} (hJ : ∀ ρ : Sx.Val, bs.hold ρ → ∀ k ∈ ks, Sx.LeastJ k ρ) : Sx.Entries Try.prog bs (jT ks bs) := ⟨Sx.caseC_entry ⟨_, Try.func30, by kernel_rfl, by kernel_rfl⟩ (by kernel_rfl) c30, Sx.caseC_entry ⟨_, Try.func11, by kernel_rfl, by kernel_rfl⟩ (by kernel_rfl) c11, Sx.caseC_entry ⟨_, Try.func12, by kernel_rfl, by kernel_rfl⟩ (by kernel_rfl) c12, Fc.jT_ok hJ⟩
-- KNOWN 30 11 12
end Go.Proofs.Ytpnclloaimepbaa.Rc
