/- 'LandOther' of chapter 08 holds as stated: for every input the law returns true, and each argument reads afterwards as before, for every world it is called in. -/
import Derived.Test.YtgleffbdhdbdaaaRows
import Derived.Test.YtgleffbdhdbdaaaSyf
import Derived.Test.YtgleffbdhdbdaaaKc
import Derived.Test.YtgleffbdhdbdaaaLa
import Derived.WalkKit
import Derived.ProofKit
import Derived.OpenShut
import Derived.ShutString
import Derived.ChangeOld
import Derived.Below
namespace Go.Proofs.Ytgleffbdhdbdaaa.landOther
open Go.ChangeShapes Go.WideShapes Go.ChangeAt Go.RowKit
open Sx (Env evF callF AS Both Val Bds Holds holds_cons holds_nil)
set_option linter.unusedVariables false

theorem own : ownKnob Try.prog.godebug = none := by kernel_rfl
theorem laidOut : laidOutB Try.prog = true := by kernel_rfl
def shapes : List AS := [.agg [.i64, .i64, .i64], .agg [.i64, .u8, .u8, .u8, .u8, .i64]]
def bs1 : Bds where
  v := [La.I64, La.I64, La.I64, La.I64, (0, 255), (0, 255), (0, 255), (0, 255), La.I64]
  a := [(0, 255)]
  J := fun ρ => ρ.a 0 = La.landRow (ρ.i 1)
theorem pro (zs : List Int) (bs : List Bool) (ss : List ByteArray) (hf : Sx.Fit [.i64, .i64, .i64, .i64, .u8, .u8, .u8, .u8, .i64] zs) :
    ∃ ρ : Val, (∀ j, j < zs.length → ρ.i j = zs.getD j 0) ∧ (∀ j, j < bs.length → ρ.b j = bs.getD j false) ∧ (∀ j, j < ss.length → ρ.s j = ss.getD j ByteArray.empty) ∧ bs1.hold ρ := by
  refine ⟨⟨fun i => zs.getD i 0, fun i => bs.getD i false, fun j => if j = 0 then La.landRow (zs.getD 1 0) else fun _ => 0, fun i => ss.getD i ByteArray.empty⟩, fun j hj => rfl, fun j _ => rfl, fun j _ => rfl, fun i l u h => hf.get i l u h, fun i l u h n => ?_, rfl⟩
  rcases i with _ | i
  · simp [bs1] at h; obtain ⟨rfl, rfl⟩ := h; exact La.landRow_bd _ n
  · simp [bs1] at h
theorem same1 (ρ v : Val) (hs : Sx.SameB ⟨100, [], [], []⟩ v ρ) (h : bs1.hold ρ) : bs1.hold v := Sx.hold_same hs (by decide) (by decide) (fun hJ => by
  show v.a 0 = La.landRow (v.i 1)
  rw [Sx.same_a hs (by decide), Sx.same_i hs (by decide)]; exact hJ) h
theorem row1 (ρ : Val) (h : bs1.hold ρ) : ρ.a 0 = La.landRow (ρ.i 1) := h.2.2
theorem good (slot b ex : Nat) : ∃ J μ, Sx.Good bs1 (La.spV 1 slot b ex) J μ := La.goodV (by omega) same1 row1 slot b ex
noncomputable def loopsE1 : List (Nat × Code) := [(0, Sx.loopAt Try.f16 0)]
noncomputable def tabE1 : Sx.Tab := [(0, (Sx.loopAt Try.f16 0, [{ gd := [(4, .c (.ptr 3 (.lit 0)))], sp := La.spV 1 11 3 0 }, { gd := [(4, .c (.ptr 8 (.lit 0)))], sp := La.spV 1 11 8 0 }, { gd := [(4, .c (.ptr 9 (.lit 0)))], sp := La.spV 1 11 9 0 }]))]
noncomputable def E1 : Env := { bs := bs1, sum := Sx.tabC (Kc.sT bs1), fns := [(5, Try.f5), (16, Sx.Func.marked Try.f16 [(0, 0)]), (17, Try.f17), (10, Try.f10), (12, Try.f12), (15, Try.f15), (24, Try.f24), (25, Try.f25), (29, Try.f29), (32, Try.f32)], loops := Sx.runTab bs1 tabE1, lk := Sx.lkOf loopsE1 }
theorem E1ok : E1.Ok Try.prog :=
  Sx.env_ok (Sx.forall_cons (Sx.fnOk_plain Try.func5 (by kernel_rfl) (by kernel_rfl)) (Sx.forall_cons (Sx.fnOk_marked Try.func16 (by kernel_rfl) (by kernel_rfl) (Sx.forall_cons rfl Sx.forall_nil)) (Sx.forall_cons (Sx.fnOk_plain Try.func17 (by kernel_rfl) (by kernel_rfl)) (Sx.forall_cons (Sx.fnOk_plain Try.func10 (by kernel_rfl) (by kernel_rfl)) (Sx.forall_cons (Sx.fnOk_plain Try.func12 (by kernel_rfl) (by kernel_rfl)) (Sx.forall_cons (Sx.fnOk_plain Try.func15 (by kernel_rfl) (by kernel_rfl)) (Sx.forall_cons (Sx.fnOk_plain Try.func24 (by kernel_rfl) (by kernel_rfl)) (Sx.forall_cons (Sx.fnOk_plain Try.func25 (by kernel_rfl) (by kernel_rfl)) (Sx.forall_cons (Sx.fnOk_plain Try.func29 (by kernel_rfl) (by kernel_rfl)) (Sx.forall_cons (Sx.fnOk_plain Try.func32 (by kernel_rfl) (by kernel_rfl)) Sx.forall_nil))))))))))
    (Sx.loopsOk_mem (l := loopsE1) (tab := tabE1) rfl rfl (Sx.forall_cons (Sx.mk_eq (by kernel_rfl) rfl) Sx.forall_nil) (Sx.forall_cons (Sx.forall_cons (good 11 3 0) (Sx.forall_cons (good 11 8 0) (Sx.forall_cons (good 11 9 0) Sx.forall_nil))) Sx.forall_nil))

theorem runs : Sx.allTrue E1.bs (callF Try.prog E1 (evF Try.prog E1 3000) 5 (AS.mvs shapes 0 0 0) {} []) = true := by kernel_rfl
theorem walk (vs : List Value) (hv : Both AS.fits shapes vs) (w : World) : Calls Try.prog 5 vs.toArray w fun e w' => e = .returned (.bool true) ∧ Below w.heap.size w w' :=
  Sx.law_pro (E := E1) (l := shapes) Try.checked.mixed E1ok (Sx.tabC_sound (Kc.sT_ok _)) (Sx.tabC_sure (Kc.sT_ok _)) pro [[]] (fun ρ _ => ⟨_, List.mem_cons_self, Sx.forall_nil⟩) (Sx.forall_cons runs Sx.forall_nil) hv w

set_option maxRecDepth 100000 in
theorem lifted (os : Os) (started : os.Started) (H : Type) (enc : TypeId × Value → H) :
    ReturnsInHanded {} Try.checked os 5 .any (Rows.landOtherSpec.pre6 enc Try.prog Try.f5 Rows.landOtherRow.domain false) (Rows.landOtherSpec.post enc Try.prog Try.f5 false true false false) := by
  refine returnsInHanded_of_change (C := Try.checked) own started (by kernel_rfl) Try.func5
    (ChangeSpec.witness6 (enc := enc) (C := Try.checked) false ⟨#[], #[.agg #[.int .i64 0, .int .i64 0, .int .i64 0], .agg #[.int .i64 0, .int .u8 0, .int .u8 0, .int .u8 0, .int .u8 0, .int .i64 0]], []⟩ 8 (by kernel_rfl) (by kernel_rfl) (by kernel_rfl) (by kernel_rfl)) ?_
  intro W base args ds gs before hval0 hW hcnd _
  have hval : ∀ (j : Nat) t v, Try.f5.params[j]? = some t → args[j]? = some v → Value.okWide Try.prog W .any base t v := hval0
  have hW' := hW
  obtain ⟨p, q, hA0, hV, rfl, hfz, hnd⟩ := hW
  have hA : DataW.TrodAll enc Try.prog W 0 (fun _ => true) true Try.f5.params.toList args.toList ds p := hA0
  rw [Try.params5] at hA hval
  obtain ⟨v0, vs0, d0, ds0, p0, q0, hargs, rfl, rfl, h0, r0⟩ := trodAll_cons hA
  obtain ⟨v1, vs1, d1, ds1, p1, q1, rfl, rfl, rfl, h1, r1⟩ := trodAll_cons r0
  obtain ⟨rfl, rfl, rfl⟩ := trodAll_nil r1
  obtain rfl : args = #[v0, v1] := by cases args; simp_all
  obtain ⟨rfl, rfl⟩ := trodVars_none hV
  have lt0 : ∀ x ∈ p0, x.block < W.heap.size := by obtain ⟨m, hm⟩ := h0; exact DataW.trod_lt m _ _ _ hm
  have lt1 : ∀ x ∈ p1, x.block < W.heap.size := by obtain ⟨m, hm⟩ := h1; exact DataW.trod_lt m _ _ _ hm
  have hfit : Both AS.fits shapes [v0, v1] := (.cons (AS.fits_of (by kernel_rfl) (hval 0 _ v0 rfl rfl)) (.cons (AS.fits_of (by kernel_rfl) (hval 1 _ v1 rfl rfl)) .nil))
  clear hA0 hval0
  refine (walk _ hfit W).mono fun e W' ⟨he, bel⟩ => ?_
  subst he
  exact ⟨_, rfl, _, _, _, [], _, [], hW', trodAll_mk1 (shut_bool Try.underlying4 _), (trodAll_cons_mk (Below.trod laidOut (by kernel_rfl) (of_decide_eq_true (by kernel_rfl)) h0 bel lt0) (trodAll_cons_mk (Below.trod laidOut (by kernel_rfl) (of_decide_eq_true (by kernel_rfl)) h1 bel lt1) trodAll_mk0)), rfl, bel.frame _, fun h => by cases h⟩

theorem over : Rows.landOtherRow.holds Try.pinned (OpenSpec.ofChange Rows.landOtherSpec) :=
  OpenClaim.holds_of_wide 5 Try.f5 rfl rfl rfl rfl rfl rfl rfl ⟨rfl, rfl, rfl, rfl, rfl⟩ rfl rfl rfl rfl rfl (by kernel_rfl) Try.func5 (by kernel_rfl)
    (of_decide_eq_true (by kernel_rfl)) (by unfold Func.isWrapper; first | (rw [if_pos (by decide +kernel)]; kernel_rfl) | (rw [if_neg (by decide +kernel)]; exact ⟨rfl, rfl⟩))
    (fun os started H enc _ => lifted os started H enc)

/-- THE STATEMENT. -/
theorem proved : Rows.LandOtherSaid := over
#print axioms proved
end Go.Proofs.Ytgleffbdhdbdaaa.landOther
