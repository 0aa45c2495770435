/- 'LedgerTells' of chapter 29 holds as stated: for every input the law returns true, and each argument reads afterwards as before, for every world it is called in. -/
import Derived.Test.YtigblagodlfedaaRows
import Derived.Test.YtigblagodlfedaaSxw
import Derived.Test.YtigblagodlfedaaKc
import Derived.Test.YtigblagodlfedaaAw
import Derived.WalkKit
import Derived.ProofKit
import Derived.OpenShut
import Derived.ShutString
import Derived.ChangeOld
import Derived.Below
namespace Go.Proofs.Ytigblagodlfedaa.ledgerTells
open Go.ChangeShapes Go.WideShapes Go.ChangeAt Go.RowKit
open Sx (Env evF callF AS Both)
set_option linter.unusedVariables false

theorem own : ownKnob Try.prog.godebug = none := by kernel_rfl
theorem laidOut : laidOutB Try.prog = true := by kernel_rfl
def shapes : List AS := [.agg [.i64, .i64, .i64, .i64], .agg [.u8, .u8], .agg [.u8, .u8]]
noncomputable def En : Env := { bs := AS.bds shapes, sum := Sx.tabC (Aw.aT (AS.bds shapes)), fns := [(3, Try.f3), (9, Try.f9), (28, Try.f28), (10, Try.f10)] }
theorem enOk : En.Ok Try.prog := Sx.ok_of (E := En) ⟨⟨Try.func3, by kernel_rfl⟩, ⟨Try.func9, by kernel_rfl⟩, ⟨Try.func28, by kernel_rfl⟩, ⟨Try.func10, by kernel_rfl⟩, trivial⟩ rfl rfl
theorem runs : Sx.allTrue En.bs (callF Try.prog En (evF Try.prog En 3000) 3 (AS.mvs shapes 0 0 0) {} []) = true := by kernel_rfl
theorem walk (vs : List Value) (hv : Both AS.fits shapes vs) (w : World) : Calls Try.prog 3 vs.toArray w fun e w' => e = .returned (.bool true) ∧ Below w.heap.size w w' :=
  Sx.law_walk (E := En) Try.checked.mixed enOk (Sx.tabC_sound (Aw.aT_ok _)) (Sx.tabC_sure (Aw.aT_ok _)) rfl runs hv w

set_option maxRecDepth 100000 in
theorem lifted (os : Os) (started : os.Started) (H : Type) (enc : TypeId × Value → H) :
    ReturnsInHanded {} Try.checked os 3 .any (Rows.ledgerTellsSpec.pre6 enc Try.prog Try.f3 Rows.ledgerTellsRow.domain false) (Rows.ledgerTellsSpec.post enc Try.prog Try.f3 false true false false) := by
  refine returnsInHanded_of_change (C := Try.checked) own started (by kernel_rfl) Try.func3
    (ChangeSpec.witness6 (enc := enc) (C := Try.checked) false ⟨#[], #[.agg #[.int .i64 0, .int .i64 0, .int .i64 0, .int .i64 0], .agg #[.int .u8 0, .int .u8 0], .agg #[.int .u8 0, .int .u8 0]], []⟩ 8 (by kernel_rfl) (by kernel_rfl) (by kernel_rfl) (by kernel_rfl)) ?_
  intro W base args ds gs before hval0 hW hcnd _
  have hval : ∀ (j : Nat) t v, Try.f3.params[j]? = some t → args[j]? = some v → Value.okWide Try.prog W .any base t v := hval0
  have hW' := hW
  obtain ⟨p, q, hA0, hV, rfl, hfz, hnd⟩ := hW
  have hA : DataW.TrodAll enc Try.prog W 0 (fun _ => true) true Try.f3.params.toList args.toList ds p := hA0
  rw [Try.params3] at hA hval
  obtain ⟨v0, vs0, d0, ds0, p0, q0, hargs, rfl, rfl, h0, r0⟩ := trodAll_cons hA
  obtain ⟨v1, vs1, d1, ds1, p1, q1, rfl, rfl, rfl, h1, r1⟩ := trodAll_cons r0
  obtain ⟨v2, vs2, d2, ds2, p2, q2, rfl, rfl, rfl, h2, r2⟩ := trodAll_cons r1
  obtain ⟨rfl, rfl, rfl⟩ := trodAll_nil r2
  obtain rfl : args = #[v0, v1, v2] := by cases args; simp_all
  obtain ⟨rfl, rfl⟩ := trodVars_none hV
  have lt0 : ∀ x ∈ p0, x.block < W.heap.size := by obtain ⟨m, hm⟩ := h0; exact DataW.trod_lt m _ _ _ hm
  have lt1 : ∀ x ∈ p1, x.block < W.heap.size := by obtain ⟨m, hm⟩ := h1; exact DataW.trod_lt m _ _ _ hm
  have lt2 : ∀ x ∈ p2, x.block < W.heap.size := by obtain ⟨m, hm⟩ := h2; exact DataW.trod_lt m _ _ _ hm
  have hfit : Both AS.fits shapes [v0, v1, v2] := (.cons (AS.fits_of (by kernel_rfl) (hval 0 _ v0 rfl rfl)) (.cons (AS.fits_of (by kernel_rfl) (hval 1 _ v1 rfl rfl)) (.cons (AS.fits_of (by kernel_rfl) (hval 2 _ v2 rfl rfl)) .nil)))
  clear hA0 hval0
  refine (walk _ hfit W).mono fun e W' ⟨he, bel⟩ => ?_
  subst he
  exact ⟨_, rfl, _, _, _, [], _, [], hW', trodAll_mk1 (shut_bool Try.underlying4 _), (trodAll_cons_mk (Below.trod laidOut (by kernel_rfl) (of_decide_eq_true (by kernel_rfl)) h0 bel lt0) (trodAll_cons_mk (Below.trod laidOut (by kernel_rfl) (of_decide_eq_true (by kernel_rfl)) h1 bel lt1) (trodAll_cons_mk (Below.trod laidOut (by kernel_rfl) (of_decide_eq_true (by kernel_rfl)) h2 bel lt2) trodAll_mk0))), rfl, bel.frame _, fun h => by cases h⟩

theorem over : Rows.ledgerTellsRow.holds Try.pinned (OpenSpec.ofChange Rows.ledgerTellsSpec) :=
  OpenClaim.holds_of_wide 3 Try.f3 rfl rfl rfl rfl rfl rfl rfl ⟨rfl, rfl, rfl, rfl, rfl⟩ rfl rfl rfl rfl rfl (by kernel_rfl) Try.func3 (by kernel_rfl)
    (of_decide_eq_true (by kernel_rfl)) (by unfold Func.isWrapper; first | (rw [if_pos (by decide +kernel)]; kernel_rfl) | (rw [if_neg (by decide +kernel)]; exact ⟨rfl, rfl⟩))
    (fun os started H enc _ => lifted os started H enc)

/-- THE STATEMENT. -/
theorem proved : Rows.LedgerTellsSaid := over
#print axioms proved
end Go.Proofs.Ytigblagodlfedaa.ledgerTells
