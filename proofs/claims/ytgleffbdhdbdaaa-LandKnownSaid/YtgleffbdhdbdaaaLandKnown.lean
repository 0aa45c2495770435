/- 'LandKnown' of chapter 08 holds as stated: for every input the law returns true, and each argument reads afterwards as before, for every world it is called in. -/
import Derived.Test.YtgleffbdhdbdaaaRows
import Derived.Test.YtgleffbdhdbdaaaSyf
import Derived.Test.YtgleffbdhdbdaaaKc
import Derived.Test.YtgleffbdhdbdaaaLa
import Derived.WalkKit
import Derived.ProofKit
import Derived.OpenShut
import Derived.ShutString
import Derived.ChangeOld
import Derived.Below
namespace Go.Proofs.Ytgleffbdhdbdaaa.landKnown
open Go.ChangeShapes Go.WideShapes Go.ChangeAt Go.RowKit
open Sx (Env evF callF AS Both Val Bds Holds holds_cons holds_nil)
set_option linter.unusedVariables false

theorem own : ownKnob Try.prog.godebug = none := by kernel_rfl
theorem laidOut : laidOutB Try.prog = true := by kernel_rfl
def shapes : List AS := []
def bs1 : Bds where
  v := []
  a := [(0, 255), (0, 255)]
  J := fun ρ => ρ.a 0 = La.landRow 0 ∧ ρ.a 1 = La.landRow 1
theorem pro (zs : List Int) (bs : List Bool) (ss : List ByteArray) (hf : Sx.Fit [] zs) :
    ∃ ρ : Val, (∀ j, j < zs.length → ρ.i j = zs.getD j 0) ∧ (∀ j, j < bs.length → ρ.b j = bs.getD j false) ∧ (∀ j, j < ss.length → ρ.s j = ss.getD j ByteArray.empty) ∧ bs1.hold ρ := by
  refine ⟨⟨fun i => zs.getD i 0, fun i => bs.getD i false, fun j => if j = 0 then La.landRow 0 else La.landRow 1, fun i => ss.getD i ByteArray.empty⟩, fun j hj => rfl, fun j _ => rfl, fun j _ => rfl, fun i l u h => hf.get i l u h, fun i l u h n => ?_, rfl, rfl⟩
  rcases i with _ | _ | i
  · simp [bs1] at h; obtain ⟨rfl, rfl⟩ := h; exact La.landRow_bd _ n
  · simp [bs1] at h; obtain ⟨rfl, rfl⟩ := h; exact La.landRow_bd _ n
  · simp [bs1] at h
theorem same1 (ρ v : Val) (hs : Sx.SameB ⟨100, [], [], []⟩ v ρ) (h : bs1.hold ρ) : bs1.hold v := Sx.hold_same hs (by decide) (by decide) (fun hJ => by
  refine ⟨?_, ?_⟩
  · rw [Sx.same_a hs (by decide)]; exact hJ.1
  · rw [Sx.same_a hs (by decide)]; exact hJ.2) h
theorem r0 (ρ : Val) (h : bs1.hold ρ) : ρ.a 0 = La.landRow 0 := h.2.2.1
theorem r1 (ρ : Val) (h : bs1.hold ρ) : ρ.a 1 = La.landRow 1 := h.2.2.2
theorem r3 (ρ : Val) (h : bs1.hold ρ) : ρ.a 1 = La.landRow 3 := (r1 ρ h).trans (La.landRow_air (by omega) (by omega))
theorem c0 (ρ : Val) (h : bs1.hold ρ) : ((La.cnt (ρ.a 0) 4096 : Nat) : Int) = 3840 := by rw [r0 ρ h, La.cnt_all (by omega)]; rfl
theorem c1 (ρ : Val) (h : bs1.hold ρ) : ((La.cnt (ρ.a 1) 4096 : Nat) : Int) = 0 := by rw [r1 ρ h, La.cnt_all (by omega)]; rfl
def spot (x y z : Int) : Sx.MV := .agg [.int .i64 (.lit x), .int .i64 (.lit y), .int .i64 (.lit z)]
def rowB (ar : Nat) : Sx.Blk := .arr (.av ar) [.u8] (.lit 0) (.lit 16384) 44 1 [.nils]
noncomputable def loopsE1 : List (Nat × Code) := [(0, Sx.loopAt Try.f16 0), (1, Sx.loopAt Try.f22 0)]
noncomputable def tabE1 : Sx.Tab := [(0, (Sx.loopAt Try.f16 0, [{ gd := [(4, .c (.ptr 1 (.lit 0))), (0, spot 0 1 0)], sp := La.spWc 1 (.lit 0) (.lit 15) 11 1 0 }, { gd := [(4, .c (.ptr 4 (.lit 0))), (0, spot 3 1 (-9))], sp := La.spWc 1 (.lit 0) (.lit 15) 11 4 0 }, { gd := [(4, .c (.ptr 4 (.lit 0))), (0, spot 9 3 9)], sp := La.spWc 1 (.lit 0) (.lit 15) 11 4 0 }, { gd := [(4, .c (.ptr 4 (.lit 0))), (0, spot 3 0 (-9))], sp := La.spWc 0 La.k0 (.lit 0) 11 4 0 }, { gd := [(4, .c (.ptr 4 (.lit 0))), (0, spot 0 0 0)], sp := La.spWc 0 La.k0 (.lit 0) 11 4 0 }])), (1, (Sx.loopAt Try.f22 0, [{ gd := [(0, .c (.ptr 4 (.lit 0)))], sp := La.spMc 0 3840 6 2 0, gb := [(4, rowB 0)] }, { gd := [(0, .c (.ptr 4 (.lit 0)))], sp := La.spMc 1 0 6 2 0, gb := [(4, rowB 1)] }]))]
noncomputable def E1 : Env := { bs := bs1, sum := Sx.tabC (Kc.sT bs1), fns := [(8, Try.f8), (23, Try.f23), (16, Sx.Func.marked Try.f16 [(0, 0)]), (22, Sx.Func.marked Try.f22 [(0, 1)]), (19, Try.f19), (17, Try.f17), (10, Try.f10), (12, Try.f12), (15, Try.f15), (24, Try.f24), (25, Try.f25), (29, Try.f29), (32, Try.f32)], loops := Sx.runTab bs1 tabE1, lk := Sx.lkOf loopsE1 }
theorem E1ok : E1.Ok Try.prog :=
  Sx.env_ok (Sx.forall_cons (Sx.fnOk_plain Try.func8 (by kernel_rfl) (by kernel_rfl)) (Sx.forall_cons (Sx.fnOk_plain Try.func23 (by kernel_rfl) (by kernel_rfl)) (Sx.forall_cons (Sx.fnOk_marked Try.func16 (by kernel_rfl) (by kernel_rfl) (Sx.forall_cons rfl Sx.forall_nil)) (Sx.forall_cons (Sx.fnOk_marked Try.func22 (by kernel_rfl) (by kernel_rfl) (Sx.forall_cons rfl Sx.forall_nil)) (Sx.forall_cons (Sx.fnOk_plain Try.func19 (by kernel_rfl) (by kernel_rfl)) (Sx.forall_cons (Sx.fnOk_plain Try.func17 (by kernel_rfl) (by kernel_rfl)) (Sx.forall_cons (Sx.fnOk_plain Try.func10 (by kernel_rfl) (by kernel_rfl)) (Sx.forall_cons (Sx.fnOk_plain Try.func12 (by kernel_rfl) (by kernel_rfl)) (Sx.forall_cons (Sx.fnOk_plain Try.func15 (by kernel_rfl) (by kernel_rfl)) (Sx.forall_cons (Sx.fnOk_plain Try.func24 (by kernel_rfl) (by kernel_rfl)) (Sx.forall_cons (Sx.fnOk_plain Try.func25 (by kernel_rfl) (by kernel_rfl)) (Sx.forall_cons (Sx.fnOk_plain Try.func29 (by kernel_rfl) (by kernel_rfl)) (Sx.forall_cons (Sx.fnOk_plain Try.func32 (by kernel_rfl) (by kernel_rfl)) Sx.forall_nil)))))))))))))
    (Sx.loopsOk_mem (l := loopsE1) (tab := tabE1) rfl rfl (Sx.forall_cons (Sx.mk_eq (by kernel_rfl) rfl) (Sx.forall_cons (Sx.mk_eq (by kernel_rfl) rfl) Sx.forall_nil)) (Sx.forall_cons (Sx.forall_cons (La.goodAir (by omega) same1 r1 11 1 0) (Sx.forall_cons (La.goodAir (by omega) same1 r1 11 4 0) (Sx.forall_cons (La.goodAir (by omega) same1 r3 11 4 0) (Sx.forall_cons (La.goodGround same1 r0 11 4 0) (Sx.forall_cons (La.goodGround same1 r0 11 4 0) Sx.forall_nil))))) (Sx.forall_cons (Sx.forall_cons (La.goodMc (by omega) same1 c0 6 2 0) (Sx.forall_cons (La.goodMc (by omega) same1 c1 6 2 0) Sx.forall_nil)) Sx.forall_nil)))

def facts : List (Sx.E × Bool) := [(.bin .eq (.bin .rd (.av 0) (.lit 0)) (.lit 1), true), (.bin .eq (.bin .rd (.av 1) (.lit 0)) (.lit 0), true)]
theorem cover (ρ : Val) (h : bs1.hold ρ) : ∃ c ∈ [facts], ∀ p ∈ c, p.1.T ρ = p.2 := by
  refine ⟨_, List.mem_cons_self, Sx.forall_cons ?_ (Sx.forall_cons ?_ Sx.forall_nil)⟩
  · show (ρ.a 0 0 == 1) = true; rw [r0 ρ h]; decide
  · show (ρ.a 1 0 == 0) = true; rw [r1 ρ h]; decide
theorem runs : Sx.allTrue E1.bs (callF Try.prog E1 (evF Try.prog E1 3000) 8 (AS.mvs shapes 0 0 0) {} (Sx.factsOf facts)) = true := by kernel_rfl
theorem walk (vs : List Value) (hv : Both AS.fits shapes vs) (w : World) : Calls Try.prog 8 vs.toArray w fun e w' => e = .returned (.bool true) ∧ Below w.heap.size w w' :=
  Sx.law_pro (E := E1) (l := shapes) Try.checked.mixed E1ok (Sx.tabC_sound (Kc.sT_ok _)) (Sx.tabC_sure (Kc.sT_ok _)) pro [facts] cover (Sx.forall_cons runs Sx.forall_nil) hv w

set_option maxRecDepth 100000 in
theorem lifted (os : Os) (started : os.Started) (H : Type) (enc : TypeId × Value → H) :
    ReturnsInHanded {} Try.checked os 8 .any (Rows.landKnownSpec.pre6 enc Try.prog Try.f8 Rows.landKnownRow.domain false) (Rows.landKnownSpec.post enc Try.prog Try.f8 false true false false) := by
  refine returnsInHanded_of_change (C := Try.checked) own started (by kernel_rfl) Try.func8
    (ChangeSpec.witness6 (enc := enc) (C := Try.checked) false ⟨#[], #[], []⟩ 8 (by kernel_rfl) (by kernel_rfl) (by kernel_rfl) (by kernel_rfl)) ?_
  intro W base args ds gs before hval0 hW hcnd _
  have hval : ∀ (j : Nat) t v, Try.f8.params[j]? = some t → args[j]? = some v → Value.okWide Try.prog W .any base t v := hval0
  have hW' := hW
  obtain ⟨p, q, hA0, hV, rfl, hfz, hnd⟩ := hW
  have hA : DataW.TrodAll enc Try.prog W 0 (fun _ => true) true Try.f8.params.toList args.toList ds p := hA0
  rw [Try.params8] at hA hval
  obtain ⟨rfl, rfl, rfl⟩ := trodAll_none hA
  obtain ⟨rfl, rfl⟩ := trodVars_none hV
  have hfit : Both AS.fits shapes [] := .nil
  clear hA0 hval0
  refine (walk _ hfit W).mono fun e W' ⟨he, bel⟩ => ?_
  subst he
  exact ⟨_, rfl, _, _, _, [], _, [], hW', trodAll_mk1 (shut_bool Try.underlying4 _), trodAll_mk0, rfl, bel.frame _, fun h => by cases h⟩

theorem over : Rows.landKnownRow.holds Try.pinned (OpenSpec.ofChange Rows.landKnownSpec) :=
  OpenClaim.holds_of_wide 8 Try.f8 rfl rfl rfl rfl rfl rfl rfl ⟨rfl, rfl, rfl, rfl, rfl⟩ rfl rfl rfl rfl rfl (by kernel_rfl) Try.func8 (by kernel_rfl)
    (of_decide_eq_true (by kernel_rfl)) (by unfold Func.isWrapper; first | (rw [if_pos (by decide +kernel)]; kernel_rfl) | (rw [if_neg (by decide +kernel)]; exact ⟨rfl, rfl⟩))
    (fun os started H enc _ => lifted os started H enc)

/-- THE STATEMENT. -/
theorem proved : Rows.LandKnownSaid := over
#print axioms proved
end Go.Proofs.Ytgleffbdhdbdaaa.landKnown
