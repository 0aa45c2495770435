/- 'GlowLand' of chapter 10 holds as stated: for every input the law returns true, and the arguments read afterwards as before, for every world it is called in. -/
import Derived.Test.YtmgiabehooghcaaRows
import Derived.Test.YtmgiabehooghcaaGin
import Derived.Test.YtmgiabehooghcaaLandg
import Derived.WalkKit
import Derived.ProofKit
import Derived.OpenShut
import Derived.ChangeOld
import Derived.Below
import Derived.SizedLaws
namespace Go.Proofs.Ytmgiabehooghcaa.glowLand
open Go.ChangeShapes Go.WideShapes Go.ChangeAt Go.RowKit
open Sx (SlIn SFit PFit PA SA)
set_option linter.unusedVariables false

theorem own : ownKnob Try.prog.godebug = none := by kernel_rfl
theorem laidOut : laidOutB Try.prog = true := by kernel_rfl
theorem walk {vs : List Value} {zs : List Int} {w : World} (hv : SFit (.slice none 0 0) [.agg ([.i64, .i64, .i64].map .int), .one (.int .u8), .one (.int .u8)] vs zs) :
    Calls Try.prog 11 vs.toArray w fun e w' => e = .returned (.bool true) ∧ Below w.heap.size w w' := by
  cases hv with
  | agg hp ht => cases ht with
    | int hu ht => cases ht with
      | int hv ht => cases ht with
        | nil => cases hp with
          | int ha hp => cases hp with
            | int hb hp => cases hp with
              | int hc hp => cases hp with
                | nil =>
                  rename_i zu zv za zb zc
                  simp only [IntKind.min, IntKind.max, IntKind.signed, IntKind.bits] at hu hv
                  obtain ⟨u, rfl⟩ : ∃ q : Nat, zu = q := ⟨zu.toNat, by simp at hu; omega⟩
                  obtain ⟨v, rfl⟩ : ∃ q : Nat, zv = q := ⟨zv.toNat, by simp at hv; omega⟩
                  exact callsIn_wide.1 (land_in 0 w za zb zc u v (by simp at hu; omega) (by simp at hv; omega))

set_option maxRecDepth 100000 in
theorem lifted (os : Os) (started : os.Started) (H : Type) (enc : TypeId × Value → H) :
    ReturnsInHanded {} Try.checked os 11 .any (Rows.glowLandSpec.pre6 enc Try.prog Try.f11 Rows.glowLandRow.domain false) (Rows.glowLandSpec.post enc Try.prog Try.f11 false true false false) := by
  refine returnsInHanded_of_change_sized (C := Try.checked) own started (by kernel_rfl) Try.func11
    (ChangeSpec.witness6 (enc := enc) (C := Try.checked) false ⟨#[], #[.agg #[.int .i64 0, .int .i64 0, .int .i64 0], .int .u8 0, .int .u8 0], []⟩ 8 (by kernel_rfl) (by kernel_rfl) (by kernel_rfl) (by kernel_rfl)) ?_
  intro W base args0 ds gs before hval0 hW _ hsz0 _
  have hsz : (DataW.weightsEach Try.prog (Try.f11.params.toList ++ Rows.glowLandSpec.plain.varTypes Try.prog) (ds ++ gs)).all (· ≤ reachBytes) = true := hsz0
  have hval : ∀ (j : Nat) t v, Try.f11.params[j]? = some t → args0[j]? = some v → Value.okWide Try.prog W .any base t v := hval0
  have hW' := hW
  obtain ⟨p, q, hA0, hV, rfl, hfz, hnd⟩ := hW
  have hA : DataW.TrodAll enc Try.prog W 0 (fun _ => true) true Try.f11.params.toList args0.toList ds p := hA0
  rw [Try.params11] at hA hval hsz
  obtain ⟨v0, vs0, d0, ds0, p0, q0, hargs, rfl, rfl, h0, r0⟩ := trodAll_cons hA
  obtain ⟨v1, vs1, d1, ds1, p1, q1, rfl, rfl, rfl, h1, r1⟩ := trodAll_cons r0
  obtain ⟨v2, vs2, d2, ds2, p2, q2, rfl, rfl, rfl, h2, r2⟩ := trodAll_cons r1
  obtain ⟨rfl, rfl, rfl⟩ := trodAll_nil r2
  obtain rfl : args0 = #[v0, v1, v2] := by cases args0; simp_all
  obtain ⟨rfl, rfl⟩ := trodVars_none hV
  have lt0 : ∀ x ∈ p0, x.block < W.heap.size := by obtain ⟨m, hm⟩ := h0; exact DataW.trod_lt m _ _ _ hm
  have lt1 : ∀ x ∈ p1, x.block < W.heap.size := by obtain ⟨m, hm⟩ := h1; exact DataW.trod_lt m _ _ _ hm
  have lt2 : ∀ x ∈ p2, x.block < W.heap.size := by obtain ⟨m, hm⟩ := h2; exact DataW.trod_lt m _ _ _ hm
  have hfit0 : Sx.AS.fits (.agg [.i64, .i64, .i64]) v0 := Sx.AS.fits_of (by kernel_rfl) (hval 0 _ v0 rfl rfl)
  have hfit1 : Sx.AS.fits (.int .u8) v1 := Sx.AS.fits_of (by kernel_rfl) (hval 1 _ v1 rfl rfl)
  have hfit2 : Sx.AS.fits (.int .u8) v2 := Sx.AS.fits_of (by kernel_rfl) (hval 2 _ v2 rfl rfl)
  have g3 : SFit (.slice none 0 0) [] [] [] := .nil
  obtain ⟨y2, g2⟩ := Sx.sfit_int hfit2 g3
  obtain ⟨y1, g1⟩ := Sx.sfit_int hfit1 g2
  obtain ⟨y0, g0⟩ := Sx.sfit_agg hfit0 g1
  clear hA0 hval0 hsz0
  refine (walk g0).mono fun e W' ⟨he, bel⟩ => ?_
  subst he
  exact ⟨_, rfl, _, _, _, [], _, [], hW', trodAll_mk1 (shut_bool Try.underlying4 _), (trodAll_cons_mk (Below.trod laidOut (by kernel_rfl) (of_decide_eq_true (by kernel_rfl)) h0 bel lt0) (trodAll_cons_mk (Below.trod laidOut (by kernel_rfl) (of_decide_eq_true (by kernel_rfl)) h1 bel lt1) (trodAll_cons_mk (Below.trod laidOut (by kernel_rfl) (of_decide_eq_true (by kernel_rfl)) h2 bel lt2) trodAll_mk0))), rfl, bel.frame _, fun h => by cases h⟩

theorem over : Rows.glowLandRow.holds Try.pinned (OpenSpec.ofChange Rows.glowLandSpec) :=
  OpenClaim.holds_of_wide 11 Try.f11 rfl rfl rfl rfl rfl rfl rfl ⟨rfl, rfl, rfl, rfl, rfl⟩ rfl rfl rfl rfl rfl (by kernel_rfl) Try.func11 (by kernel_rfl)
    (of_decide_eq_true (by kernel_rfl)) (by unfold Func.isWrapper; first | (rw [if_pos (by decide +kernel)]; kernel_rfl) | (rw [if_neg (by decide +kernel)]; exact ⟨rfl, rfl⟩))
    (fun os started H enc _ => lifted os started H enc)

/-- THE STATEMENT. -/
theorem proved : Rows.GlowLandSaid := over
#print axioms proved
end Go.Proofs.Ytmgiabehooghcaa.glowLand
