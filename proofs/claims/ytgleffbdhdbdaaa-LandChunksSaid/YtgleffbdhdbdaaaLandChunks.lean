/- 'LandChunks' of chapter 08 holds as stated: for every input the law returns true, and each argument reads afterwards as before, for every world it is called in. -/
import Derived.Test.YtgleffbdhdbdaaaRows
import Derived.Test.YtgleffbdhdbdaaaSyf
import Derived.Test.YtgleffbdhdbdaaaKc
import Derived.Test.YtgleffbdhdbdaaaLa
import Derived.WalkKit
import Derived.ProofKit
import Derived.OpenShut
import Derived.ShutString
import Derived.ChangeOld
import Derived.Below
namespace Go.Proofs.Ytgleffbdhdbdaaa.landChunks
open Go.ChangeShapes Go.WideShapes Go.ChangeAt Go.RowKit
open Sx (Env evF callF AS Both Val Bds Holds holds_cons holds_nil)
set_option linter.unusedVariables false

theorem own : ownKnob Try.prog.godebug = none := by kernel_rfl
theorem laidOut : laidOutB Try.prog = true := by kernel_rfl
def shapes : List AS := [.agg [.i64, .i64, .i64]]
noncomputable def loops1 : List (Nat × Code) := [(0, Sx.loopAt Try.f16 0), (1, Sx.loopAt Try.f18 0), (2, Sx.loopAt Try.f22 0), (3, Sx.loopAt Try.f21 0)]
noncomputable def tab1 : Sx.Tab := [(0, (Sx.loopAt Try.f16 0, [{ gd := [(4, .c (.ptr 2 (.lit 0)))], sp := La.spC 11 2 0 }, { gd := [(4, .c (.ptr 7 (.lit 0)))], sp := La.spC 11 7 0 }])), (1, (Sx.loopAt Try.f18 0, [{ sp := La.spR 5 4 0 }])), (2, (Sx.loopAt Try.f22 0, [{ sp := La.spN 6 2 0 }])), (3, (Sx.loopAt Try.f21 0, [{ sp := Sx.eachS 5 (.lit 4096) }]))]
noncomputable def E1 : Env := { bs := La.bsL, sum := Sx.tabC (Kc.sT La.bsL), fns := [(6, Try.f6), (16, Sx.Func.marked Try.f16 [(0, 0)]), (18, Sx.Func.marked Try.f18 [(0, 1)]), (22, Sx.Func.marked Try.f22 [(0, 2)]), (21, Sx.Func.marked Try.f21 [(0, 3)]), (19, Try.f19), (20, Try.f20), (24, Try.f24), (25, Try.f25), (29, Try.f29), (32, Try.f32), (31, Try.f31), (33, Try.f33), (34, Try.f34), (35, Try.f35), (39, Try.f39), (36, Try.f36)], loops := Sx.runTab La.bsL tab1, lk := Sx.lkOf loops1 }
theorem e1Ok : E1.Ok Try.prog :=
  Sx.env_ok (Sx.forall_cons (Sx.fnOk_plain Try.func6 (by kernel_rfl) (by kernel_rfl)) (Sx.forall_cons (Sx.fnOk_marked Try.func16 (by kernel_rfl) (by kernel_rfl) (Sx.forall_cons rfl Sx.forall_nil)) (Sx.forall_cons (Sx.fnOk_marked Try.func18 (by kernel_rfl) (by kernel_rfl) (Sx.forall_cons rfl Sx.forall_nil)) (Sx.forall_cons (Sx.fnOk_marked Try.func22 (by kernel_rfl) (by kernel_rfl) (Sx.forall_cons rfl Sx.forall_nil)) (Sx.forall_cons (Sx.fnOk_marked Try.func21 (by kernel_rfl) (by kernel_rfl) (Sx.forall_cons rfl Sx.forall_nil)) (Sx.forall_cons (Sx.fnOk_plain Try.func19 (by kernel_rfl) (by kernel_rfl)) (Sx.forall_cons (Sx.fnOk_plain Try.func20 (by kernel_rfl) (by kernel_rfl)) (Sx.forall_cons (Sx.fnOk_plain Try.func24 (by kernel_rfl) (by kernel_rfl)) (Sx.forall_cons (Sx.fnOk_plain Try.func25 (by kernel_rfl) (by kernel_rfl)) (Sx.forall_cons (Sx.fnOk_plain Try.func29 (by kernel_rfl) (by kernel_rfl)) (Sx.forall_cons (Sx.fnOk_plain Try.func32 (by kernel_rfl) (by kernel_rfl)) (Sx.forall_cons (Sx.fnOk_plain Try.func31 (by kernel_rfl) (by kernel_rfl)) (Sx.forall_cons (Sx.fnOk_plain Try.func33 (by kernel_rfl) (by kernel_rfl)) (Sx.forall_cons (Sx.fnOk_plain Try.func34 (by kernel_rfl) (by kernel_rfl)) (Sx.forall_cons (Sx.fnOk_plain Try.func35 (by kernel_rfl) (by kernel_rfl)) (Sx.forall_cons (Sx.fnOk_plain Try.func39 (by kernel_rfl) (by kernel_rfl)) (Sx.forall_cons (Sx.fnOk_plain Try.func36 (by kernel_rfl) (by kernel_rfl)) Sx.forall_nil)))))))))))))))))
    (Sx.loopsOk_mem (l := loops1) (tab := tab1) rfl rfl (Sx.forall_cons (Sx.mk_eq (by kernel_rfl) rfl) (Sx.forall_cons (Sx.mk_eq (by kernel_rfl) rfl) (Sx.forall_cons (Sx.mk_eq (by kernel_rfl) rfl) (Sx.forall_cons (Sx.mk_eq (by kernel_rfl) rfl) Sx.forall_nil)))) (Sx.forall_cons (Sx.forall_cons (La.goodC 11 2 0) (Sx.forall_cons (La.goodC 11 7 0) Sx.forall_nil)) (Sx.forall_cons (Sx.forall_cons (La.goodR 5 4 0) Sx.forall_nil) (Sx.forall_cons (Sx.forall_cons (La.goodN 6 2 0) Sx.forall_nil) (Sx.forall_cons (Sx.forall_cons ⟨_, _, Sx.eachS_good La.sameL rfl (fun _ _ => by show (0 : Int) ≤ 4096 ∧ (4096 : Int) ≤ 70368744177663; omega)⟩ Sx.forall_nil) Sx.forall_nil)))))
theorem runs : Sx.allTrue E1.bs (callF Try.prog E1 (evF Try.prog E1 3000) 6 (AS.mvs shapes 0 0 0) {} []) = true := by kernel_rfl
theorem walk (vs : List Value) (hv : Both AS.fits shapes vs) (w : World) : Calls Try.prog 6 vs.toArray w fun e w' => e = .returned (.bool true) ∧ Below w.heap.size w w' :=
  Sx.law_pro (E := E1) (l := shapes) Try.checked.mixed e1Ok (Sx.tabC_sound (Kc.sT_ok _)) (Sx.tabC_sure (Kc.sT_ok _)) La.pro [[]] (fun ρ _ => ⟨_, List.mem_cons_self, Sx.forall_nil⟩) (Sx.forall_cons runs Sx.forall_nil) hv w

set_option maxRecDepth 100000 in
theorem lifted (os : Os) (started : os.Started) (H : Type) (enc : TypeId × Value → H) :
    ReturnsInHanded {} Try.checked os 6 .any (Rows.landChunksSpec.pre6 enc Try.prog Try.f6 Rows.landChunksRow.domain false) (Rows.landChunksSpec.post enc Try.prog Try.f6 false true false false) := by
  refine returnsInHanded_of_change (C := Try.checked) own started (by kernel_rfl) Try.func6
    (ChangeSpec.witness6 (enc := enc) (C := Try.checked) false ⟨#[], #[.agg #[.int .i64 0, .int .i64 0, .int .i64 0]], []⟩ 8 (by kernel_rfl) (by kernel_rfl) (by kernel_rfl) (by kernel_rfl)) ?_
  intro W base args ds gs before hval0 hW hcnd _
  have hval : ∀ (j : Nat) t v, Try.f6.params[j]? = some t → args[j]? = some v → Value.okWide Try.prog W .any base t v := hval0
  have hW' := hW
  obtain ⟨p, q, hA0, hV, rfl, hfz, hnd⟩ := hW
  have hA : DataW.TrodAll enc Try.prog W 0 (fun _ => true) true Try.f6.params.toList args.toList ds p := hA0
  rw [Try.params6] at hA hval
  obtain ⟨v0, vs0, d0, ds0, p0, q0, hargs, rfl, rfl, h0, r0⟩ := trodAll_cons hA
  obtain ⟨rfl, rfl, rfl⟩ := trodAll_nil r0
  obtain rfl : args = #[v0] := by cases args; simp_all
  obtain ⟨rfl, rfl⟩ := trodVars_none hV
  have lt0 : ∀ x ∈ p0, x.block < W.heap.size := by obtain ⟨m, hm⟩ := h0; exact DataW.trod_lt m _ _ _ hm
  have hfit : Both AS.fits shapes [v0] := (.cons (AS.fits_of (by kernel_rfl) (hval 0 _ v0 rfl rfl)) .nil)
  clear hA0 hval0
  refine (walk _ hfit W).mono fun e W' ⟨he, bel⟩ => ?_
  subst he
  exact ⟨_, rfl, _, _, _, [], _, [], hW', trodAll_mk1 (shut_bool Try.underlying4 _), (trodAll_cons_mk (Below.trod laidOut (by kernel_rfl) (of_decide_eq_true (by kernel_rfl)) h0 bel lt0) trodAll_mk0), rfl, bel.frame _, fun h => by cases h⟩

theorem over : Rows.landChunksRow.holds Try.pinned (OpenSpec.ofChange Rows.landChunksSpec) :=
  OpenClaim.holds_of_wide 6 Try.f6 rfl rfl rfl rfl rfl rfl rfl ⟨rfl, rfl, rfl, rfl, rfl⟩ rfl rfl rfl rfl rfl (by kernel_rfl) Try.func6 (by kernel_rfl)
    (of_decide_eq_true (by kernel_rfl)) (by unfold Func.isWrapper; first | (rw [if_pos (by decide +kernel)]; kernel_rfl) | (rw [if_neg (by decide +kernel)]; exact ⟨rfl, rfl⟩))
    (fun os started H enc _ => lifted os started H enc)

/-- THE STATEMENT. -/
theorem proved : Rows.LandChunksSaid := over
#print axioms proved
end Go.Proofs.Ytgleffbdhdbdaaa.landChunks
