/- The ledger's small world: some of the chapter's answers; what a ledger tells. -/
import Derived.Test.YtigblagodlfedaaRows
import Derived.Test.YtigblagodlfedaaLa
import Derived.Test.YtigblagodlfedaaLu
namespace Go.Proofs.Ytigblagodlfedaa.Aw
open Go.RowKit
open Sx (Env evF callF AS Known PF Val Bds Holds holds_cons holds_nil)
set_option linter.unusedVariables false

/-! ### What is known: the kinds; both Tells -/
def tT (bs : Bds) : List (Nat × Known) := (7, PF.C Sx.tellsP bs) :: (8, PF.C Sx.tellsP bs) :: Kc.sT bs
theorem tT_ok (bs : Bds) : Sx.Entries Try.prog bs (tT bs) := ⟨PF.entry Sx.tellsP_ok ⟨_, Try.func7, by kernel_rfl, by kernel_rfl⟩ Lt.c7, PF.entry Sx.tellsP_ok ⟨_, Try.func8, by kernel_rfl, by kernel_rfl⟩ Lt.c8, Kc.sT_ok bs⟩

/-! ### A count in a row of zeros -/
def spZ (si sn ex : Nat) : Sx.LSpec where
  M := 100
  tpl := [(si, .c (.int .i64 La.v100)), (sn, .c (.int .i64 (.lit 0)))]
  ini := { i := [(100, .lit 0)] }
  hfs := La.head []
  ways := [{ tests := [(La.lt4, true)], σ := { i := [(100, .bin .add La.v100 (.lit 1))] } },
    { tests := [(La.lt4, false)], ex := .exit ex, kd := .out, σ := { i := [(100, La.v100)] }, fin := { i := [(100, .lit 4096)] } }]
theorem goodZ {bs : Bds} (same : ∀ ρ v, Sx.SameB ⟨100, [], [], []⟩ v ρ → bs.hold ρ → bs.hold v) (si sn ex : Nat) : ∃ J μ, Sx.Good bs (spZ si sn ex) J μ := ⟨fun ρ v => 0 ≤ v.i 100 ∧ v.i 100 ≤ 4096, fun ρ v => ((4096 : Int) - v.i 100).toNat, {
  start := fun ρ hb _ => ⟨by show (0 : Int) ≤ 0; omega, by show (0 : Int) ≤ 4096; omega⟩
  head := fun ρ v hb hp hs ⟨h1, h2⟩ => by
    refine ⟨holds_cons ?_ (holds_cons ?_ holds_nil), same ρ v hs hb⟩
    · show decide (v.i 100 < 0) = false; rw [decide_eq_false_iff_not]; omega
    · show decide ((4096 : Int) < v.i 100) = false; rw [decide_eq_false_iff_not]; omega
  next := fun j w hw hkd ρ v hb hp hs ⟨h1, h2⟩ ht => by
    rcases j with _ | _ | j
    · simp only [spZ, List.getElem?_cons_zero, Option.some.injEq] at hw
      subst hw
      have a1 : decide (v.i 100 < 4096) = true := ht _ List.mem_cons_self
      rw [decide_eq_true_eq] at a1
      refine ⟨⟨?_, ?_⟩, ?_⟩
      · show 0 ≤ v.i 100 + 1; omega
      · show v.i 100 + 1 ≤ 4096; omega
      · show ((4096 : Int) - (v.i 100 + 1)).toNat < ((4096 : Int) - v.i 100).toNat; omega
    · simp only [spZ, List.getElem?_cons_zero, List.getElem?_cons_succ, Option.some.injEq] at hw; subst hw; cases hkd
    · simp [spZ] at hw
  dead := fun j w hw hkd => by
    rcases j with _ | _ | j
    · simp only [spZ, List.getElem?_cons_zero, Option.some.injEq] at hw; subst hw; cases hkd
    · simp only [spZ, List.getElem?_cons_zero, List.getElem?_cons_succ, Option.some.injEq] at hw; subst hw; cases hkd
    · simp [spZ] at hw
  out := fun j w hw hkd ρ v hb hp hs ⟨h1, h2⟩ ht => by
    rcases j with _ | _ | j
    · simp only [spZ, List.getElem?_cons_zero, Option.some.injEq] at hw; subst hw; cases hkd
    · simp only [spZ, List.getElem?_cons_zero, List.getElem?_cons_succ, Option.some.injEq] at hw
      subst hw
      have a1 : decide (v.i 100 < 4096) = false := ht _ List.mem_cons_self
      rw [decide_eq_false_iff_not] at a1
      refine ⟨by simp only [spZ, Sx.selIx, Sx.E.T, if_true], ⟨fun q hq => ?_, fun q hq => absurd hq (by simp), fun q hq => absurd hq (by simp)⟩⟩
      simp only [List.mem_cons, List.not_mem_nil, or_false] at hq
      subst hq
      show v.i 100 = 4096; omega
    · simp [spZ] at hw
  fin := fun ρ hb _ => by
    simp only [spZ, Sx.FactsOk, Sx.E.T, if_true]
    exact holds_nil }⟩

/-! ### The small world -/
def bs1 : Bds where
  v := []
  a := [(0, 255)]
  J := fun ρ => ρ.a 0 = La.landRow 0
theorem pro (zs : List Int) (bs : List Bool) (ss : List ByteArray) (hf : Sx.Fit [] zs) :
    ∃ ρ : Val, (∀ j, j < zs.length → ρ.i j = zs.getD j 0) ∧ (∀ j, j < bs.length → ρ.b j = bs.getD j false) ∧ (∀ j, j < ss.length → ρ.s j = ss.getD j ByteArray.empty) ∧ bs1.hold ρ := by
  refine ⟨⟨fun i => zs.getD i 0, fun i => bs.getD i false, fun j => La.landRow 0, fun i => ss.getD i ByteArray.empty⟩, fun j hj => rfl, fun j _ => rfl, fun j _ => rfl, fun i l u h => hf.get i l u h, fun i l u h n => ?_, rfl⟩
  rcases i with _ | i
  · simp [bs1] at h; obtain ⟨rfl, rfl⟩ := h; exact La.landRow_bd _ n
  · simp [bs1] at h
theorem same1 (ρ v : Val) (hs : Sx.SameB ⟨100, [], [], []⟩ v ρ) (h : bs1.hold ρ) : bs1.hold v := Sx.hold_same hs (by decide) (by decide) (fun hJ => by
  show v.a 0 = _
  rw [Sx.same_a hs (by decide)]; exact hJ) h
theorem r0 (ρ : Val) (h : bs1.hold ρ) : ρ.a 0 = La.landRow 0 := h.2.2
theorem c0 (ρ : Val) (h : bs1.hold ρ) : ((La.cnt (ρ.a 0) 4096 : Nat) : Int) = 3840 := by rw [r0 ρ h, La.cnt_all (by omega)]; rfl
def rowB (x : Sx.E) : Sx.Blk := .arr x [.u8] (.lit 0) (.lit 16384) 49 1 [.nils]
noncomputable def loopsE1 : List (Nat × Code) := [(0, Sx.loopAt Try.f24 0), (1, Sx.loopAt Try.f30 0)]
noncomputable def tabE1 : Sx.Tab := [(0, (Sx.loopAt Try.f24 0, [{ gd := [(4, .c (.ptr 3 (.lit 0)))], sp := La.spWc 0 La.k0 (.lit 0) 11 3 0 }, { gd := [(4, .c (.ptr 6 (.lit 0)))], sp := La.spWc 0 La.k0 (.lit 0) 11 6 0 }])), (1, (Sx.loopAt Try.f30 0, [{ gd := [(0, .c (.ptr 0 (.lit 0)))], sp := spZ 6 2 0, gb := [(0, rowB (.bl false))] }, { gd := [(0, .c (.ptr 6 (.lit 0)))], sp := La.spMc 0 3840 6 2 0, gb := [(6, rowB (.av 0))] }]))]
noncomputable def E1 : Env := { bs := bs1, sum := Sx.tabC (tT bs1), fns := [(11, Try.f11), (23, Try.f23), (13, Try.f13), (9, Try.f9), (28, Try.f28), (24, Sx.Func.marked Try.f24 [(0, 0)]), (30, Sx.Func.marked Try.f30 [(0, 1)]), (16, Try.f16), (36, Try.f36), (25, Try.f25), (37, Try.f37), (38, Try.f38)], loops := Sx.runTab bs1 tabE1, lk := Sx.lkOf loopsE1 }
theorem E1ok : E1.Ok Try.prog :=
  Sx.env_ok (Sx.forall_cons (Sx.fnOk_plain Try.func11 (by kernel_rfl) (by kernel_rfl)) (Sx.forall_cons (Sx.fnOk_plain Try.func23 (by kernel_rfl) (by kernel_rfl)) (Sx.forall_cons (Sx.fnOk_plain Try.func13 (by kernel_rfl) (by kernel_rfl)) (Sx.forall_cons (Sx.fnOk_plain Try.func9 (by kernel_rfl) (by kernel_rfl)) (Sx.forall_cons (Sx.fnOk_plain Try.func28 (by kernel_rfl) (by kernel_rfl)) (Sx.forall_cons (Sx.fnOk_marked Try.func24 (by kernel_rfl) (by kernel_rfl) (Sx.forall_cons rfl Sx.forall_nil)) (Sx.forall_cons (Sx.fnOk_marked Try.func30 (by kernel_rfl) (by kernel_rfl) (Sx.forall_cons rfl Sx.forall_nil)) (Sx.forall_cons (Sx.fnOk_plain Try.func16 (by kernel_rfl) (by kernel_rfl)) (Sx.forall_cons (Sx.fnOk_plain Try.func36 (by kernel_rfl) (by kernel_rfl)) (Sx.forall_cons (Sx.fnOk_plain Try.func25 (by kernel_rfl) (by kernel_rfl)) (Sx.forall_cons (Sx.fnOk_plain Try.func37 (by kernel_rfl) (by kernel_rfl)) (Sx.forall_cons (Sx.fnOk_plain Try.func38 (by kernel_rfl) (by kernel_rfl)) Sx.forall_nil))))))))))))
    (Sx.loopsOk_mem (l := loopsE1) (tab := tabE1) rfl rfl (Sx.forall_cons (Sx.mk_eq (by kernel_rfl) rfl) (Sx.forall_cons (Sx.mk_eq (by kernel_rfl) rfl) Sx.forall_nil)) (Sx.forall_cons (Sx.forall_cons (La.goodGround same1 r0 11 3 0) (Sx.forall_cons (La.goodGround same1 r0 11 6 0) Sx.forall_nil)) (Sx.forall_cons (Sx.forall_cons (goodZ same1 6 2 0) (Sx.forall_cons (La.goodMc (by omega) same1 c0 6 2 0) Sx.forall_nil)) Sx.forall_nil)))

theorem runs : Sx.allTrue E1.bs (callF Try.prog E1 (evF Try.prog E1 3000) 11 (AS.mvs [] 0 0 0) {} []) = true := by kernel_rfl
theorem sane : Sx.Sane Try.prog 11 := fun w =>
  Sx.law_pro (E := E1) (l := []) Try.checked.mixed E1ok (Sx.tabC_sound (tT_ok _)) (Sx.tabC_sure (tT_ok _)) pro [[]] (fun ρ _ => ⟨_, List.mem_cons_self, Sx.forall_nil⟩) (Sx.forall_cons runs Sx.forall_nil) .nil w
def aT (bs : Bds) : List (Nat × Known) := (11, Sx.trueC) :: tT bs
theorem aT_ok (bs : Bds) : Sx.Entries Try.prog bs (aT bs) := ⟨Sx.trueC_entry ⟨_, Try.func11, by kernel_rfl, by kernel_rfl⟩ sane, tT_ok bs⟩
end Go.Proofs.Ytigblagodlfedaa.Aw
