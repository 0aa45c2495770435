/- 'LedgerTotals' of chapter 29 holds as stated: for every input the law returns true, and the arguments read afterwards as before, for every world it is called in. -/
import Derived.Test.YtigblagodlfedaaRows
import Derived.Test.YtigblagodlfedaaM8
import Derived.WalkKit
import Derived.ProofKit
import Derived.OpenShut
import Derived.ChangeOld
import Derived.Below
import Derived.SizedLaws
namespace Go.Proofs.Ytigblagodlfedaa.ledgerTotals
open Go.ChangeShapes Go.WideShapes Go.ChangeAt Go.RowKit
set_option linter.unusedVariables false

theorem own : ownKnob Try.prog.godebug = none := by kernel_rfl
theorem laidOut : laidOutB Try.prog = true := by kernel_rfl
theorem ledg_of {v : Value} (h : Sx.AS.fits (.agg [.i64, .i64, .i64, .i64]) v) : ∃ x0 x1 x2 x3 : Int, v = Pf.ledgV x0 x1 x2 x3 ∧ Pf.I64 x0 ∧ Pf.I64 x1 ∧ Pf.I64 x2 ∧ Pf.I64 x3 := by
  obtain ⟨zs, hf, rfl⟩ := h
  obtain ⟨z0, r0, rfl, a0, hf⟩ := fit_cons hf
  obtain ⟨z1, r1, rfl, a1, hf⟩ := fit_cons hf
  obtain ⟨z2, r2, rfl, a2, hf⟩ := fit_cons hf
  obtain ⟨z3, r3, rfl, a3, hf⟩ := fit_cons hf
  obtain rfl := fit_nil hf
  exact ⟨z0, z1, z2, z3, rfl, a0, a1, a2, a3⟩
set_option maxRecDepth 100000 in
theorem lifted (os : Os) (started : os.Started) (H : Type) (enc : TypeId × Value → H) :
    ReturnsInHanded {} Try.checked os 5 .any (Rows.ledgerTotalsSpec.pre6 enc Try.prog Try.f5 Rows.ledgerTotalsRow.domain false) (Rows.ledgerTotalsSpec.post enc Try.prog Try.f5 false true false false) := by
  refine returnsInHanded_of_change (C := Try.checked) own started (by kernel_rfl) Try.func5
    (ChangeSpec.witness6 (enc := enc) (C := Try.checked) false ⟨#[], #[.slice none 0 0, .agg #[.int .i64 0, .int .i64 0, .int .i64 0, .int .i64 0]], []⟩ 8 (by kernel_rfl) (by kernel_rfl) (by kernel_rfl) (by kernel_rfl)) ?_
  intro W base args0 ds gs before hval0 hW hcnd _
  have hval : ∀ (j : Nat) t v, Try.f5.params[j]? = some t → args0[j]? = some v → Value.okWide Try.prog W .any base t v := hval0
  have hW' := hW
  obtain ⟨p, q, hA0, hV, rfl, hfz, hnd⟩ := hW
  have hA : DataW.TrodAll enc Try.prog W 0 (fun _ => true) true Try.f5.params.toList args0.toList ds p := hA0
  rw [Try.params5] at hA hval
  obtain ⟨v0, vs0, d0, ds0, p0, q0, hargs, rfl, rfl, h0, r0⟩ := trodAll_cons hA
  obtain ⟨v1, vs1, d1, ds1, p1, q1, rfl, rfl, rfl, h1, r1⟩ := trodAll_cons r0
  obtain ⟨rfl, rfl, rfl⟩ := trodAll_nil r1
  obtain rfl : args0 = #[v0, v1] := by cases args0; simp_all
  obtain ⟨rfl, rfl⟩ := trodVars_none hV
  have lt0 : ∀ x ∈ p0, x.block < W.heap.size := by obtain ⟨m, hm⟩ := h0; exact DataW.trod_lt m _ _ _ hm
  have lt1 : ∀ x ∈ p1, x.block < W.heap.size := by obtain ⟨m, hm⟩ := h1; exact DataW.trod_lt m _ _ _ hm
  have hfit1 : Sx.AS.fits (.agg [.i64, .i64, .i64, .i64]) v1 := Sx.AS.fits_of (by kernel_rfl) (hval 1 _ v1 rfl rfl)
  obtain ⟨x0, x1, x2, x3, rfl, i0, i1, i2, i3⟩ := ledg_of hfit1
  have hs0 : ∃ a l c, v0 = .slice a l c := by
    obtain ⟨a0, len, cap, e⟩ := WideShapes.okWide_slice Try.underlying51 (hval 0 _ v0 rfl rfl)
    exact ⟨a0, len, cap, e⟩
  obtain ⟨sa, pc, ga, oa, ps, rfl, hP⟩ := pts_of hs0 h0
  clear hA0 hval0
  refine (callsIn_wide.1 (totals_in hP i0 i1 i2 i3 0)).mono fun e W' ⟨he, bel⟩ => ?_
  subst he
  exact ⟨_, rfl, _, _, _, [], _, [], hW', trodAll_mk1 (shut_bool Try.underlying4 _), (trodAll_cons_mk (Below.trod laidOut (by kernel_rfl) (of_decide_eq_true (by kernel_rfl)) h0 bel lt0) (trodAll_cons_mk (Below.trod laidOut (by kernel_rfl) (of_decide_eq_true (by kernel_rfl)) h1 bel lt1) trodAll_mk0)), rfl, bel.frame _, fun h => by cases h⟩

theorem over : Rows.ledgerTotalsRow.holds Try.pinned (OpenSpec.ofChange Rows.ledgerTotalsSpec) :=
  OpenClaim.holds_of_wide 5 Try.f5 rfl rfl rfl rfl rfl rfl rfl ⟨rfl, rfl, rfl, rfl, rfl⟩ rfl rfl rfl rfl rfl (by kernel_rfl) Try.func5 (by kernel_rfl)
    (of_decide_eq_true (by kernel_rfl)) (by unfold Func.isWrapper; first | (rw [if_pos (by decide +kernel)]; kernel_rfl) | (rw [if_neg (by decide +kernel)]; exact ⟨rfl, rfl⟩))
    (fun os started H enc _ => lifted os started H enc)

/-- THE STATEMENT. -/
theorem proved : Rows.LedgerTotalsSaid := over
#print axioms proved
end Go.Proofs.Ytigblagodlfedaa.ledgerTotals
