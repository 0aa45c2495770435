/- 'GlowLights' of chapter 10 holds as stated: for every input the law returns true, and the arguments read afterwards as before, for every world it is called in. -/
import Derived.Test.YtmgiabehooghcaaRows
import Derived.Test.YtmgiabehooghcaaGin
import Derived.Test.YtmgiabehooghcaaNr
import Derived.WalkKit
import Derived.ProofKit
import Derived.OpenShut
import Derived.ChangeOld
import Derived.Below
import Derived.SizedLaws
namespace Go.Proofs.Ytmgiabehooghcaa.glowLights
open Go.ChangeShapes Go.WideShapes Go.ChangeAt Go.RowKit
open Sx (SlIn SFit PFit PA SA)
set_option linter.unusedVariables false

theorem own : ownKnob Try.prog.godebug = none := by kernel_rfl
theorem laidOut : laidOutB Try.prog = true := by kernel_rfl
def ks : List IntKind := [.u8, .u8]
def M : Nat := 70368744175616
theorem box_vs {s : Value} {cs : List Value} {zs : List Int} (h : PFit s [.int .i64, .int .i64, .int .i64, .sl] cs zs) : ∃ X Y Z : Int, cs = [.int .i64 X, .int .i64 Y, .int .i64 Z, s] := by
  cases h with
  | int _ h => cases h with
    | int _ h => cases h with
      | int _ h => cases h with
        | sl h => cases h with
          | nil => exact ⟨_, _, _, rfl⟩
theorem walk {vs : List Value} {zs : List Int} {s : Value} {w : World} (hv : SFit s [.agg [.int .i64, .int .i64, .int .i64, .sl]] vs zs) (hs : SlIn w ks M s) :
    Calls Try.prog 3 vs.toArray w fun e w' => e = .returned (.bool true) ∧ Below w.heap.size w w' := by
  cases hv with
  | agg hp ht => cases ht with
    | nil =>
      obtain ⟨X, Y, Z, rfl⟩ := box_vs hp
      exact callsIn_wide.1 (lights_law 0 M (by decide) w X Y Z s hs)

set_option maxRecDepth 100000 in
theorem lifted (os : Os) (started : os.Started) (H : Type) (enc : TypeId × Value → H) :
    ReturnsInHanded {} Try.checked os 3 .any (Rows.glowLightsSpec.pre6 enc Try.prog Try.f3 Rows.glowLightsRow.domain false) (Rows.glowLightsSpec.post enc Try.prog Try.f3 false true false false) := by
  refine returnsInHanded_of_change_sized (C := Try.checked) own started (by kernel_rfl) Try.func3
    (ChangeSpec.witness6 (enc := enc) (C := Try.checked) false ⟨#[], #[.agg #[.int .i64 0, .int .i64 0, .int .i64 0, .slice none 0 0]], []⟩ 8 (by kernel_rfl) (by kernel_rfl) (by kernel_rfl) (by kernel_rfl)) ?_
  intro W base args0 ds gs before hval0 hW _ hsz0 _
  have hsz : (DataW.weightsEach Try.prog (Try.f3.params.toList ++ Rows.glowLightsSpec.plain.varTypes Try.prog) (ds ++ gs)).all (· ≤ reachBytes) = true := hsz0
  have hval : ∀ (j : Nat) t v, Try.f3.params[j]? = some t → args0[j]? = some v → Value.okWide Try.prog W .any base t v := hval0
  have hW' := hW
  obtain ⟨p, q, hA0, hV, rfl, hfz, hnd⟩ := hW
  have hA : DataW.TrodAll enc Try.prog W 0 (fun _ => true) true Try.f3.params.toList args0.toList ds p := hA0
  rw [Try.params3] at hA hval hsz
  obtain ⟨v0, vs0, d0, ds0, p0, q0, hargs, rfl, rfl, h0, r0⟩ := trodAll_cons hA
  obtain ⟨rfl, rfl, rfl⟩ := trodAll_nil r0
  obtain rfl : args0 = #[v0] := by cases args0; simp_all
  obtain ⟨rfl, rfl⟩ := trodVars_none hV
  have lt0 : ∀ x ∈ p0, x.block < W.heap.size := by obtain ⟨m, hm⟩ := h0; exact DataW.trod_lt m _ _ _ hm
  obtain ⟨cs, s, z1, rfl, hp, hsl⟩ := Sx.stIn_of (d := 8) (q := 3) (M := M) (ks := ks) (st := 22) (e := 32) (ps := [.int .i64, .int .i64, .int .i64, .sl]) (ts := [3, 3, 3, 22]) Try.underlying24 rfl rfl Try.underlying22 (by kernel_rfl) (by kernel_rfl) (by kernel_rfl) rfl rfl (by kernel_rfl) (by kernel_rfl) (by kernel_rfl) (by decide) (hval 0 _ v0 rfl rfl) h0
    (fun n hn => by have := List.all_eq_true.1 hsz _ (DataW.weights_mem_each (j := 0) rfl rfl n hn); simpa using this) (of_decide_eq_true (by kernel_rfl))
  have g1 : SFit s [] [] [] := .nil
  have g0 := Sx.SFit.agg hp g1
  clear hA0 hval0 hsz0
  refine (walk g0 hsl).mono fun e W' ⟨he, bel⟩ => ?_
  subst he
  exact ⟨_, rfl, _, _, _, [], _, [], hW', trodAll_mk1 (shut_bool Try.underlying4 _), (trodAll_cons_mk (Below.trod laidOut (by kernel_rfl) (of_decide_eq_true (by kernel_rfl)) h0 bel lt0) trodAll_mk0), rfl, bel.frame _, fun h => by cases h⟩

theorem over : Rows.glowLightsRow.holds Try.pinned (OpenSpec.ofChange Rows.glowLightsSpec) :=
  OpenClaim.holds_of_wide 3 Try.f3 rfl rfl rfl rfl rfl rfl rfl ⟨rfl, rfl, rfl, rfl, rfl⟩ rfl rfl rfl rfl rfl (by kernel_rfl) Try.func3 (by kernel_rfl)
    (of_decide_eq_true (by kernel_rfl)) (by unfold Func.isWrapper; first | (rw [if_pos (by decide +kernel)]; kernel_rfl) | (rw [if_neg (by decide +kernel)]; exact ⟨rfl, rfl⟩))
    (fun os started H enc _ => lifted os started H enc)

/-- THE STATEMENT. -/
theorem proved : Rows.GlowLightsSaid := over
#print axioms proved
end Go.Proofs.Ytmgiabehooghcaa.glowLights
