/- 'LandSame' of chapter 08 holds as stated: for every input the law returns true, and each argument reads afterwards as before, for every world it is called in. -/
import Derived.Test.YtgleffbdhdbdaaaRows
import Derived.Test.YtgleffbdhdbdaaaSyf
import Derived.Test.YtgleffbdhdbdaaaKc
import Derived.Test.YtgleffbdhdbdaaaLa
import Derived.WalkKit
import Derived.ProofKit
import Derived.OpenShut
import Derived.ShutString
import Derived.ChangeOld
import Derived.Below
namespace Go.Proofs.Ytgleffbdhdbdaaa.landSame
open Go.ChangeShapes Go.WideShapes Go.ChangeAt Go.RowKit
open Sx (Env evF callF AS Both Val Bds Holds holds_cons holds_nil)
set_option linter.unusedVariables false

theorem own : ownKnob Try.prog.godebug = none := by kernel_rfl
theorem laidOut : laidOutB Try.prog = true := by kernel_rfl
def shapes : List AS := [.agg [.i64, .i64, .i64], .int .i64]
def bs1 : Bds where
  v := [La.I64, La.I64, La.I64, La.I64]
  a := [(0, 255)]
  J := fun ρ => ρ.a 0 = La.landRow (ρ.i 1)
theorem pro (zs : List Int) (bs : List Bool) (ss : List ByteArray) (hf : Sx.Fit [.i64, .i64, .i64, .i64] zs) :
    ∃ ρ : Val, (∀ j, j < zs.length → ρ.i j = zs.getD j 0) ∧ (∀ j, j < bs.length → ρ.b j = bs.getD j false) ∧ (∀ j, j < ss.length → ρ.s j = ss.getD j ByteArray.empty) ∧ bs1.hold ρ := by
  refine ⟨⟨fun i => zs.getD i 0, fun i => bs.getD i false, fun j => if j = 0 then La.landRow (zs.getD 1 0) else fun _ => 0, fun i => ss.getD i ByteArray.empty⟩, fun j hj => rfl, fun j _ => rfl, fun j _ => rfl, fun i l u h => hf.get i l u h, fun i l u h n => ?_, rfl⟩
  rcases i with _ | i
  · simp [bs1] at h; obtain ⟨rfl, rfl⟩ := h; exact La.landRow_bd _ n
  · simp [bs1] at h
theorem same1 (ρ v : Val) (hs : Sx.SameB ⟨100, [], [], []⟩ v ρ) (h : bs1.hold ρ) : bs1.hold v := Sx.hold_same hs (by decide) (by decide) (fun hJ => by
  show v.a 0 = La.landRow (v.i 1)
  rw [Sx.same_a hs (by decide), Sx.same_i hs (by decide)]; exact hJ) h
theorem row1 (ρ : Val) (h : bs1.hold ρ) : ρ.a 0 = La.landRow (ρ.i 1) := h.2.2
theorem good (slot b ex : Nat) : ∃ J μ, Sx.Good bs1 (La.spV 1 slot b ex) J μ := La.goodV (by omega) same1 row1 slot b ex

/-! ### Cases by the height at the index -/
def ix : Sx.E := .var 3
def yI : Sx.E := .bin .add (.bin .mul (.var 1) (.lit 16)) (.bin .div ix (.lit 256))
def q0 : Sx.E := .bin .rd (.av 0) (.bin .mul ix (.lit 2))
def q (o : Int) : Sx.E := .bin .rd (.av 0) (.bin .add (.bin .mul ix (.lit 2)) (.lit o))
def kk (a b : Int) : List (Sx.E × Bool) := [(.bin .eq q0 (.lit a), true), (.bin .eq (q 8192) (.lit b), true), (.bin .lt ix (.lit 0), false), (.bin .lt ix (.lit 4096), true), (.bin .eq (q 1) (.lit 0), true), (.bin .eq (q 8193) (.lit 0), true)]
def z : Sx.E := .bin .eq yI (.lit 0)
def h1 : Sx.E := .bin .lt (.lit 15) yI
def h2 : Sx.E := .bin .lt (.lit 11) yI
def cA : List (Sx.E × Bool) := [(.bin .lt ix (.lit 0), true)]
def cB : List (Sx.E × Bool) := [(.bin .lt ix (.lit 0), false), (.bin .lt ix (.lit 4096), false)]
def c1 : List (Sx.E × Bool) := (z, true) :: (h1, false) :: kk 1 0
def c2 : List (Sx.E × Bool) := (z, false) :: (h1, true) :: kk 0 15
def c3 : List (Sx.E × Bool) := (z, false) :: (h1, false) :: (h2, true) :: kk 3 0
def c4 : List (Sx.E × Bool) := (z, false) :: (h1, false) :: (h2, false) :: kk 2 0
def cases : List (List (Sx.E × Bool)) := [cA, cB, c1, c2, c3, c4]
theorem cover (ρ : Val) (hb : bs1.hold ρ) : ∃ c ∈ cases, ∀ p ∈ c, p.1.T ρ = p.2 := by
  by_cases n0 : ρ.i 3 < 0
  · exact ⟨cA, by simp [cases], holds_cons (decide_eq_true n0) holds_nil⟩
  by_cases n4 : ρ.i 3 < 4096
  · obtain ⟨i, hi⟩ : ∃ i : Nat, ρ.i 3 = i := ⟨(ρ.i 3).toNat, by omega⟩
    have hlt : i < 4096 := by omega
    have hr := row1 ρ hb
    have hy : yI.I ρ = ρ.i 1 * 16 + ((i / 256 : Nat) : Int) := by show ρ.i 1 * 16 + ρ.i 3 / 256 = _; rw [hi]; omega
    have k0 : ∀ a b, La.cellK (yI.I ρ) = a → La.cellL (yI.I ρ) = b → Holds (kk a b) ρ := fun a b ha hb' => by
      refine holds_cons ?_ (holds_cons ?_ (holds_cons ?_ (holds_cons ?_ (holds_cons ?_ (holds_cons ?_ holds_nil)))))
      · show (ρ.a 0 (ρ.i 3 * 2).toNat == a) = true
        rw [hr, show (ρ.i 3 * 2).toNat = 2 * i from by omega, La.landRow_k hlt, ← hy, ha]; exact beq_self_eq_true _
      · show (ρ.a 0 (ρ.i 3 * 2 + 8192).toNat == b) = true
        rw [hr, show (ρ.i 3 * 2 + 8192).toNat = 2 * i + 8192 from by omega, La.landRow_l hlt, ← hy, hb']; exact beq_self_eq_true _
      · exact decide_eq_false n0
      · exact decide_eq_true n4
      · show (ρ.a 0 (ρ.i 3 * 2 + 1).toNat == 0) = true
        rw [hr, show (ρ.i 3 * 2 + 1).toNat = 2 * i + 1 from by omega, La.landRow_o1]; rfl
      · show (ρ.a 0 (ρ.i 3 * 2 + 8193).toNat == 0) = true
        rw [hr, show (ρ.i 3 * 2 + 8193).toNat = 2 * i + 8193 from by omega, La.landRow_o3]; rfl
    have zT : z.T ρ = (yI.I ρ == 0) := rfl
    have h1T : h1.T ρ = decide (15 < yI.I ρ) := rfl
    have h2T : h2.T ρ = decide (11 < yI.I ρ) := rfl
    generalize yI.I ρ = y at *
    by_cases e0 : y = 0
    · subst e0
      exact ⟨c1, by simp [cases], holds_cons (by rw [zT]; rfl) (holds_cons (by rw [h1T]; rfl) (k0 1 0 rfl rfl))⟩
    · have zF : z.T ρ = false := by rw [zT]; exact beq_eq_false_iff_ne.2 e0
      by_cases e1 : 15 < y
      · exact ⟨c2, by simp [cases], holds_cons zF (holds_cons (by rw [h1T]; exact decide_eq_true e1) (k0 0 15 (by unfold La.cellK; simp [e0, e1]) (by unfold La.cellL; simp [e1])))⟩
      · by_cases e2 : 11 < y
        · exact ⟨c3, by simp [cases], holds_cons zF (holds_cons (by rw [h1T]; exact decide_eq_false e1) (holds_cons (by rw [h2T]; exact decide_eq_true e2) (k0 3 0 (by unfold La.cellK; simp [e0, e1, e2]) (by unfold La.cellL; simp [e1]))))⟩
        · exact ⟨c4, by simp [cases], holds_cons zF (holds_cons (by rw [h1T]; exact decide_eq_false e1) (holds_cons (by rw [h2T]; exact decide_eq_false e2) (k0 2 0 (by unfold La.cellK; simp [e0, e1, e2]) (by unfold La.cellL; simp [e1]))))⟩
  · exact ⟨cB, by simp [cases], holds_cons (decide_eq_false n0) (holds_cons (decide_eq_false n4) holds_nil)⟩
noncomputable def loops1 : List (Nat × Code) := [(0, Sx.loopAt Try.f16 0), (2, Sx.loopAt Try.f26 0), (3, Sx.loopAt Try.f26 1)]
noncomputable def tab1 : Sx.Tab := [(0, (Sx.loopAt Try.f16 0, [{ gd := [(4, .c (.ptr 2 (.lit 0)))], sp := La.spV 1 11 2 0 }, { gd := [(4, .c (.ptr 5 (.lit 0)))], sp := La.spV 1 11 5 0 }])), (2, (Sx.loopAt Try.f26 0, [{ sp := La.spK 10 0 }])), (3, (Sx.loopAt Try.f26 1, [{ sp := La.spL 22 2 }]))]
noncomputable def E1 : Env := { bs := bs1, sum := Sx.tabC (Kc.sT bs1), fns := [(9, Try.f9), (16, Sx.Func.marked Try.f16 [(0, 0)]), (26, Sx.Func.marked Try.f26 [(0, 2), (1, 3)]), (17, Try.f17), (10, Try.f10), (12, Try.f12), (15, Try.f15), (24, Try.f24), (27, Try.f27), (25, Try.f25), (29, Try.f29), (32, Try.f32)], loops := Sx.runTab bs1 tab1, lk := Sx.lkOf loops1 }
theorem e1Ok : E1.Ok Try.prog :=
  Sx.env_ok (Sx.forall_cons (Sx.fnOk_plain Try.func9 (by kernel_rfl) (by kernel_rfl)) (Sx.forall_cons (Sx.fnOk_marked Try.func16 (by kernel_rfl) (by kernel_rfl) (Sx.forall_cons rfl Sx.forall_nil)) (Sx.forall_cons (Sx.fnOk_marked Try.func26 (by kernel_rfl) (by kernel_rfl) (Sx.forall_cons rfl (Sx.forall_cons rfl Sx.forall_nil))) (Sx.forall_cons (Sx.fnOk_plain Try.func17 (by kernel_rfl) (by kernel_rfl)) (Sx.forall_cons (Sx.fnOk_plain Try.func10 (by kernel_rfl) (by kernel_rfl)) (Sx.forall_cons (Sx.fnOk_plain Try.func12 (by kernel_rfl) (by kernel_rfl)) (Sx.forall_cons (Sx.fnOk_plain Try.func15 (by kernel_rfl) (by kernel_rfl)) (Sx.forall_cons (Sx.fnOk_plain Try.func24 (by kernel_rfl) (by kernel_rfl)) (Sx.forall_cons (Sx.fnOk_plain Try.func27 (by kernel_rfl) (by kernel_rfl)) (Sx.forall_cons (Sx.fnOk_plain Try.func25 (by kernel_rfl) (by kernel_rfl)) (Sx.forall_cons (Sx.fnOk_plain Try.func29 (by kernel_rfl) (by kernel_rfl)) (Sx.forall_cons (Sx.fnOk_plain Try.func32 (by kernel_rfl) (by kernel_rfl)) Sx.forall_nil))))))))))))
    (Sx.loopsOk_mem (l := loops1) (tab := tab1) rfl rfl (Sx.forall_cons (Sx.mk_eq (by kernel_rfl) rfl) (Sx.forall_cons (Sx.mk_eq (by kernel_rfl) rfl) (Sx.forall_cons (Sx.mk_eq (by kernel_rfl) rfl) Sx.forall_nil))) (Sx.forall_cons (Sx.forall_cons (good 11 2 0) (Sx.forall_cons (good 11 5 0) Sx.forall_nil)) (Sx.forall_cons (Sx.forall_cons (La.goodK (by omega) same1 row1 10 0) Sx.forall_nil) (Sx.forall_cons (Sx.forall_cons (La.goodL (by omega) same1 row1 22 2) Sx.forall_nil) Sx.forall_nil))))
theorem runs0 : Sx.allTrue E1.bs (callF Try.prog E1 (evF Try.prog E1 3000) 9 (AS.mvs shapes 0 0 0) {} (Sx.factsOf cA)) = true := by kernel_rfl
theorem runs1 : Sx.allTrue E1.bs (callF Try.prog E1 (evF Try.prog E1 3000) 9 (AS.mvs shapes 0 0 0) {} (Sx.factsOf cB)) = true := by kernel_rfl
theorem runs2 : Sx.allTrue E1.bs (callF Try.prog E1 (evF Try.prog E1 3000) 9 (AS.mvs shapes 0 0 0) {} (Sx.factsOf c1)) = true := by kernel_rfl
theorem runs3 : Sx.allTrue E1.bs (callF Try.prog E1 (evF Try.prog E1 3000) 9 (AS.mvs shapes 0 0 0) {} (Sx.factsOf c2)) = true := by kernel_rfl
theorem runs4 : Sx.allTrue E1.bs (callF Try.prog E1 (evF Try.prog E1 3000) 9 (AS.mvs shapes 0 0 0) {} (Sx.factsOf c3)) = true := by kernel_rfl
theorem runs5 : Sx.allTrue E1.bs (callF Try.prog E1 (evF Try.prog E1 3000) 9 (AS.mvs shapes 0 0 0) {} (Sx.factsOf c4)) = true := by kernel_rfl
theorem walk (vs : List Value) (hv : Both AS.fits shapes vs) (w : World) : Calls Try.prog 9 vs.toArray w fun e w' => e = .returned (.bool true) ∧ Below w.heap.size w w' :=
  Sx.law_pro (E := E1) (l := shapes) Try.checked.mixed e1Ok (Sx.tabC_sound (Kc.sT_ok _)) (Sx.tabC_sure (Kc.sT_ok _)) pro cases cover (Sx.forall_cons runs0 (Sx.forall_cons runs1 (Sx.forall_cons runs2 (Sx.forall_cons runs3 (Sx.forall_cons runs4 (Sx.forall_cons runs5 Sx.forall_nil)))))) hv w

set_option maxRecDepth 100000 in
theorem lifted (os : Os) (started : os.Started) (H : Type) (enc : TypeId × Value → H) :
    ReturnsInHanded {} Try.checked os 9 .any (Rows.landSameSpec.pre6 enc Try.prog Try.f9 Rows.landSameRow.domain false) (Rows.landSameSpec.post enc Try.prog Try.f9 false true false false) := by
  refine returnsInHanded_of_change (C := Try.checked) own started (by kernel_rfl) Try.func9
    (ChangeSpec.witness6 (enc := enc) (C := Try.checked) false ⟨#[], #[.agg #[.int .i64 0, .int .i64 0, .int .i64 0], .int .i64 0], []⟩ 8 (by kernel_rfl) (by kernel_rfl) (by kernel_rfl) (by kernel_rfl)) ?_
  intro W base args ds gs before hval0 hW hcnd _
  have hval : ∀ (j : Nat) t v, Try.f9.params[j]? = some t → args[j]? = some v → Value.okWide Try.prog W .any base t v := hval0
  have hW' := hW
  obtain ⟨p, q, hA0, hV, rfl, hfz, hnd⟩ := hW
  have hA : DataW.TrodAll enc Try.prog W 0 (fun _ => true) true Try.f9.params.toList args.toList ds p := hA0
  rw [Try.params9] at hA hval
  obtain ⟨v0, vs0, d0, ds0, p0, q0, hargs, rfl, rfl, h0, r0⟩ := trodAll_cons hA
  obtain ⟨v1, vs1, d1, ds1, p1, q1, rfl, rfl, rfl, h1, r1⟩ := trodAll_cons r0
  obtain ⟨rfl, rfl, rfl⟩ := trodAll_nil r1
  obtain rfl : args = #[v0, v1] := by cases args; simp_all
  obtain ⟨rfl, rfl⟩ := trodVars_none hV
  have lt0 : ∀ x ∈ p0, x.block < W.heap.size := by obtain ⟨m, hm⟩ := h0; exact DataW.trod_lt m _ _ _ hm
  have lt1 : ∀ x ∈ p1, x.block < W.heap.size := by obtain ⟨m, hm⟩ := h1; exact DataW.trod_lt m _ _ _ hm
  have hfit : Both AS.fits shapes [v0, v1] := (.cons (AS.fits_of (by kernel_rfl) (hval 0 _ v0 rfl rfl)) (.cons (AS.fits_of (by kernel_rfl) (hval 1 _ v1 rfl rfl)) .nil))
  clear hA0 hval0
  refine (walk _ hfit W).mono fun e W' ⟨he, bel⟩ => ?_
  subst he
  exact ⟨_, rfl, _, _, _, [], _, [], hW', trodAll_mk1 (shut_bool Try.underlying4 _), (trodAll_cons_mk (Below.trod laidOut (by kernel_rfl) (of_decide_eq_true (by kernel_rfl)) h0 bel lt0) (trodAll_cons_mk (Below.trod laidOut (by kernel_rfl) (of_decide_eq_true (by kernel_rfl)) h1 bel lt1) trodAll_mk0)), rfl, bel.frame _, fun h => by cases h⟩

theorem over : Rows.landSameRow.holds Try.pinned (OpenSpec.ofChange Rows.landSameSpec) :=
  OpenClaim.holds_of_wide 9 Try.f9 rfl rfl rfl rfl rfl rfl rfl ⟨rfl, rfl, rfl, rfl, rfl⟩ rfl rfl rfl rfl rfl (by kernel_rfl) Try.func9 (by kernel_rfl)
    (of_decide_eq_true (by kernel_rfl)) (by unfold Func.isWrapper; first | (rw [if_pos (by decide +kernel)]; kernel_rfl) | (rw [if_neg (by decide +kernel)]; exact ⟨rfl, rfl⟩))
    (fun os started H enc _ => lifted os started H enc)

/-- THE STATEMENT. -/
theorem proved : Rows.LandSameSaid := over
#print axioms proved
end Go.Proofs.Ytgleffbdhdbdaaa.landSame
