/- 'FallSteps' of chapter 13 holds as stated: for every input the law returns true, and the argument reads afterwards as before, for every world it is called in. -/
import Derived.Test.YtdkdoopimfchbaaRows
import Derived.Test.YtdkdoopimfchbaaSyf
import Derived.Test.YtdkdoopimfchbaaKc
import Derived.Test.YtdkdoopimfchbaaFa
import Derived.WalkKit
import Derived.ProofKit
import Derived.OpenShut
import Derived.ChangeOld
import Derived.Below
import Derived.SizedLaws
namespace Go.Proofs.Ytdkdoopimfchbaa.fallSteps
open Go.ChangeShapes Go.WideShapes Go.ChangeAt Go.RowKit
open Sx (Env evF callF Val Bds Holds holds_cons holds_nil SlIn)
set_option linter.unusedVariables false

theorem own : ownKnob Try.prog.godebug = none := by kernel_rfl
theorem laidOut : laidOutB Try.prog = true := by kernel_rfl
theorem bytesEl : Try.prog.bytesOf 23 = 2 := by kernel_rfl
/-! ### Without cells: run as it stands -/
noncomputable def E0 : Env := { bs := {}, sum := Sx.tabC (Kc.sT {}), fns := [(6, Try.f6), (8, Try.f8), (9, Try.f9), (10, Try.f10), (12, Try.f12), (13, Try.f13), (14, Try.f14), (15, Try.f15), (24, Try.f24), (26, Try.f26), (27, Try.f27), (28, Try.f28), (29, Try.f29), (30, Try.f30), (32, Try.f32), (33, Try.f33)] }
theorem e0Ok : E0.Ok Try.prog := Sx.ok_of (E := E0) ⟨⟨Try.func6, by kernel_rfl⟩, ⟨Try.func8, by kernel_rfl⟩, ⟨Try.func9, by kernel_rfl⟩, ⟨Try.func10, by kernel_rfl⟩, ⟨Try.func12, by kernel_rfl⟩, ⟨Try.func13, by kernel_rfl⟩, ⟨Try.func14, by kernel_rfl⟩, ⟨Try.func15, by kernel_rfl⟩, ⟨Try.func24, by kernel_rfl⟩, ⟨Try.func26, by kernel_rfl⟩, ⟨Try.func27, by kernel_rfl⟩, ⟨Try.func28, by kernel_rfl⟩, ⟨Try.func29, by kernel_rfl⟩, ⟨Try.func30, by kernel_rfl⟩, ⟨Try.func32, by kernel_rfl⟩, ⟨Try.func33, by kernel_rfl⟩, trivial⟩ rfl rfl
theorem nilWalk (w : World) : Calls Try.prog 6 #[.slice none 0 0] w fun e w' => e = .returned (.bool true) ∧ Below w.heap.size w w' :=
  Sx.sl_nil (E := E0) (n := 3000) Try.checked.mixed e0Ok (Sx.tabC_sound (Kc.sT_ok _)) (Sx.tabC_sure (Kc.sT_ok _)) ⟨Val.zero, Sx.hold_none _⟩ (by kernel_rfl) w
theorem emptyWalk (w : World) (g off cap : Nat) : Calls Try.prog 6 #[.slice (some ⟨g, off, none⟩) 0 cap] w fun e w' => e = .returned (.bool true) ∧ Below w.heap.size w w' :=
  Sx.sl_empty (E := E0) (n := 3000) Try.checked.mixed e0Ok (Sx.tabC_sound (Kc.sT_ok _)) (Sx.tabC_sure (Kc.sT_ok _)) (fun off cap => ⟨fun i => if i = 91 then off else if i = 90 then cap else 0, fun _ => false, fun _ _ => 0, fun _ => ByteArray.empty⟩)
    (fun _ _ => ⟨rfl, rfl, Sx.hold_none _⟩) (by kernel_rfl) w g off cap


/-! ### A column, k steps later -/
def stepped (A : Nat → Int) (k : Nat) : Nat → Int := fun m => if m < 2 * k then 0 else if m = 2 * k then A 0 else if m = 2 * k + 1 then A 1 else A m
theorem stepped_0 (A : Nat → Int) : stepped A 0 = A := by
  funext m
  unfold stepped
  rw [if_neg (by omega)]
  split
  · rename_i h; rw [h]
  · split
    · rename_i h; rw [h]
    · rfl
theorem stepped_low {A : Nat → Int} {k m : Nat} (h : m < 2 * k) : stepped A k m = 0 := by unfold stepped; rw [if_pos h]
theorem stepped_a {A : Nat → Int} {k m : Nat} (h : m = 2 * k) : stepped A k m = A 0 := by unfold stepped; rw [if_neg (by omega), if_pos h]
theorem stepped_b {A : Nat → Int} {k m : Nat} (h : m = 2 * k + 1) : stepped A k m = A 1 := by unfold stepped; rw [if_neg (by omega), if_neg (by omega), if_pos h]
theorem stepped_hi {A : Nat → Int} {k m : Nat} (h : 2 * k + 1 < m) : stepped A k m = A m := by unfold stepped; rw [if_neg (by omega), if_neg (by omega), if_neg (by omega)]
theorem stepped_255 {A : Nat → Int} (h : ∀ n, 0 ≤ A n ∧ A n ≤ 255) (k m : Nat) : 0 ≤ stepped A k m ∧ stepped A k m ≤ 255 := by
  unfold stepped
  split
  · omega
  · split
    · exact h _
    · split
      · exact h _
      · exact h _
def landM (A : Nat → Int) (n : Nat) : Nat := if Sx.cellP 4 A 0 then Fa.landP A n else 0
theorem landM_eq (A : Nat → Int) (n : Nat) : Fa.landN A n = (landM A n : Nat) := by unfold Fa.landN landM; split <;> rfl
theorem landM_le (A : Nat → Int) (n : Nat) : landM A n ≤ n - 1 := by
  have := Sx.lead_le (fun k => Sx.cellP 2 A (k * 2 + 2)) (n - 1)
  unfold landM Fa.landP; split <;> omega

/-! ### A row of cells: how far it falls, and what it is then, is known -/
def pro (A : Nat → Int) (off len cap : Nat) : Val := ⟨fun i => if i = 91 then off else if i = 1 then len else if i = 90 then cap else if i = 2 then landM A len else 0, fun _ => false, fun j => if j = 0 then A else if j = 1 then stepped A (landM A len) else fun _ => 0, fun _ => ByteArray.empty⟩
theorem pro_ok (A : Nat → Int) (off len cap : Nat) : (pro A off len cap).i 91 = (off : Nat) ∧ (pro A off len cap).i 1 = (len : Nat) ∧ (pro A off len cap).i 90 = (cap : Nat) ∧ (pro A off len cap).a 0 = A := ⟨rfl, rfl, rfl, rfl⟩
theorem base_ok {A : Nat → Int} {off len cap : Nat} (h0 : 0 < len) (hc : len ≤ cap) : Holds Fa.base (pro A off len cap) := by
  refine holds_cons ?_ (holds_cons ?_ (holds_cons ?_ holds_nil)) <;> simp only [Sx.E.T, Sx.E.I, pro, Nat.reduceEqDiff, if_true, if_false, decide_eq_false_iff_not, decide_eq_true_eq] <;> omega
def bs1 : Bds where
  v := [(0, 0), (1, 70368744177663), (0, 70368744177663)]
  a := [(0, 255), (0, 255)]
  J := fun ρ => ρ.i 2 = (landM (ρ.a 0) (ρ.i 1).toNat : Nat) ∧ ρ.a 1 = stepped (ρ.a 0) (landM (ρ.a 0) (ρ.i 1).toNat)
theorem hold1 (A : Nat → Int) (off len cap : Nat) (h0 : 0 < len) (_ : len ≤ cap) (hl : len ≤ 70368744177663) (hA : ∀ n, ∃ k ∈ ([.u8, .u8] : List IntKind), k.min ≤ A n ∧ A n ≤ k.max) : bs1.hold (pro A off len cap) := by
  have hp := landM_le A len
  refine ⟨fun i l u h => ?_, fun i l u h n => ?_, rfl, rfl⟩
  · rcases i with _ | _ | _ | i
    · simp [bs1] at h; obtain ⟨rfl, rfl⟩ := h; exact ⟨Int.le_refl _, Int.le_refl _⟩
    · simp [bs1] at h; obtain ⟨rfl, rfl⟩ := h; show 1 ≤ (len : Int) ∧ (len : Int) ≤ _; omega
    · simp [bs1] at h; obtain ⟨rfl, rfl⟩ := h; show 0 ≤ ((landM A len : Nat) : Int) ∧ ((landM A len : Nat) : Int) ≤ _; omega
    · simp [bs1] at h
  · rcases i with _ | _ | i
    · simp [bs1] at h; obtain ⟨rfl, rfl⟩ := h; exact Fa.a255 hA n
    · simp [bs1] at h; obtain ⟨rfl, rfl⟩ := h; exact stepped_255 (Fa.a255 hA) _ _
    · simp [bs1] at h
theorem same1 (ρ v : Val) (hs : Sx.SameB ⟨100, [], [], []⟩ v ρ) (h : bs1.hold ρ) : bs1.hold v := Sx.hold_same hs (by decide) (by decide) (fun hJ => by
  refine ⟨?_, ?_⟩
  · rw [Sx.same_i hs (by decide), Sx.same_i hs (by decide), Sx.same_a hs (by decide)]; exact hJ.1
  · rw [Sx.same_a hs (by decide), Sx.same_i hs (by decide), Sx.same_a hs (by decide)]; exact hJ.2) h

/-! ### Step by step -/
def v100 : Sx.E := .var 100
def o0 : Sx.E := .bin .mul v100 (.lit 2)
def o1 : Sx.E := .bin .add o0 (.lit 1)
def o2 : Sx.E := .bin .mul (.bin .add v100 (.lit 1)) (.lit 2)
def o3 : Sx.E := .bin .add o2 (.lit 1)
def cel (o : Sx.E) : Sx.E := .bin .rd (.av 100) o
def nextE : Sx.E := .bin .and (.bin .and (.bin (.gb 0) (cel o0) (cel o1)) (.un (.fb 4) (cel o0))) (.bin .and (.bin (.gb 0) (cel o2) (cel o3)) (.un (.fb 2) (cel o2)))
def go1 : Sx.E := .bin .lt (.bin .add v100 (.lit 1)) (.var 1)
def stepE : Sx.E := .upd (.upd (.upd (.upd (.av 100) o2 (cel o0)) o3 (cel o1)) o0 (.lit 0)) o1 (.lit 0)
def by1 (o : Sx.E) (l : List (Sx.E × Bool)) : List (Sx.E × Bool) := (.bin .lt (cel o) (.lit 0), false) :: (.bin .lt (.lit 255) (cel o), false) :: l
def sp0 : Sx.LSpec where
  M := 100
  tpl := [(4, .c (.int .i64 v100))]
  tplB := [(2, .arr (.av 100) [.u8, .u8] (.lit 0) (.bin .mul (.var 1) (.lit 2)) 23 4 [])]
  ini := { i := [(100, .lit 0)], a := [(100, .av 0)] }
  hfs := (.bin .lt v100 (.lit 0), false) :: (.bin .lt v100 (.var 1), true) :: (.bin .lt v100 (.lit 70368744177665), true) :: by1 o0 (by1 o1 (by1 o2 (by1 o3 [])))
  d := [2]
  ways := [{ tests := [(go1, true), (nextE, true)], σ := { i := [(100, .bin .add v100 (.lit 1))], a := [(100, stepE)] } },
    { tests := [(go1, true), (nextE, false)], ex := .exit 0, kd := .out, cond := .bin .lt (.bin .add (.var 2) (.lit 1)) (.var 1), σ := { i := [(100, v100)], a := [(100, .av 100)] }, fin := { i := [(100, .var 2)], a := [(100, .av 1)] } },
    { tests := [(go1, false)], ex := .exit 0, kd := .out, σ := { i := [(100, v100)], a := [(100, .av 100)] }, fin := { i := [(100, .var 2)], a := [(100, .av 1)] } }]
def J0 (ρ v : Val) : Prop := 0 ≤ v.i 100 ∧ v.i 100 ≤ ρ.i 2 ∧ v.a 100 = stepped (ρ.a 0) (v.i 100).toNat
theorem o0I {v : Val} {k : Nat} (hk : v.i 100 = k) : (o0.I v).toNat = 2 * k := by show (v.i 100 * 2).toNat = _; omega
theorem o1I {v : Val} {k : Nat} (hk : v.i 100 = k) : (o1.I v).toNat = 2 * k + 1 := by show (v.i 100 * 2 + 1).toNat = _; omega
theorem o2I {v : Val} {k : Nat} (hk : v.i 100 = k) : (o2.I v).toNat = 2 * k + 2 := by show ((v.i 100 + 1) * 2).toNat = _; omega
theorem o3I {v : Val} {k : Nat} (hk : v.i 100 = k) : (o3.I v).toNat = 2 * k + 3 := by show ((v.i 100 + 1) * 2 + 1).toNat = _; omega
theorem nextT {v : Val} {k : Nat} {A : Nat → Int} (hk : v.i 100 = k) (ha : v.a 100 = stepped A k) : nextE.T v = (Sx.cellP 4 A 0 && Sx.cellP 2 A (k * 2 + 2)) := by
  show ((Sx.phiB2 0 (v.a 100 (o0.I v).toNat) (v.a 100 (o1.I v).toNat) && Sx.phiB1 4 (v.a 100 (o0.I v).toNat)) && (Sx.phiB2 0 (v.a 100 (o2.I v).toNat) (v.a 100 (o3.I v).toNat) && Sx.phiB1 2 (v.a 100 (o2.I v).toNat))) = _
  rw [o0I hk, o1I hk, o2I hk, o3I hk, ha, stepped_a rfl, stepped_b rfl, stepped_hi (by omega), stepped_hi (by omega), show 2 * k + 2 = k * 2 + 2 from by omega, show 2 * k + 3 = k * 2 + 2 + 1 from by omega]
  rfl
theorem stepT {v : Val} {k : Nat} {A : Nat → Int} (hk : v.i 100 = k) (ha : v.a 100 = stepped A k) : stepE.A v = stepped A (k + 1) := by
  funext m
  show (if m = (o1.I v).toNat then (0 : Int) else if m = (o0.I v).toNat then 0 else if m = (o3.I v).toNat then v.a 100 (o1.I v).toNat else if m = (o2.I v).toNat then v.a 100 (o0.I v).toNat else v.a 100 m) = _
  rw [o0I hk, o1I hk, o2I hk, o3I hk, ha, stepped_a rfl, stepped_b rfl]
  by_cases h1 : m = 2 * k + 1
  · rw [if_pos h1, stepped_low (by omega)]
  · rw [if_neg h1]
    by_cases h0 : m = 2 * k
    · rw [if_pos h0, stepped_low (by omega)]
    · rw [if_neg h0]
      by_cases h3 : m = 2 * k + 3
      · rw [if_pos h3, stepped_b (by omega)]
      · rw [if_neg h3]
        by_cases h2 : m = 2 * k + 2
        · rw [if_pos h2, stepped_a (by omega)]
        · rw [if_neg h2]
          by_cases h : m < 2 * k
          · rw [stepped_low h, stepped_low (by omega)]
          · rw [stepped_hi (by omega), stepped_hi (by omega)]
theorem hold_facts {ρ : Val} (hb : bs1.hold ρ) : 1 ≤ ρ.i 1 ∧ ρ.i 1 ≤ 70368744177663 ∧ ρ.i 2 = (landM (ρ.a 0) (ρ.i 1).toNat : Nat) ∧ landM (ρ.a 0) (ρ.i 1).toNat ≤ (ρ.i 1).toNat - 1 ∧ ρ.a 1 = stepped (ρ.a 0) (landM (ρ.a 0) (ρ.i 1).toNat) :=
  ⟨(hb.1 1 _ _ rfl).1, (hb.1 1 _ _ rfl).2, hb.2.2.1, landM_le _ _, hb.2.2.2⟩
theorem by_ok {v : Val} {o : Sx.E} {l : List (Sx.E × Bool)} (h : ∀ m, 0 ≤ v.a 100 m ∧ v.a 100 m ≤ 255) (hl : Holds l v) : Holds (by1 o l) v := by
  have := h (o.I v).toNat
  refine holds_cons ?_ (holds_cons ?_ hl)
  · show decide (v.a 100 (o.I v).toNat < 0) = false; rw [decide_eq_false_iff_not]; omega
  · show decide ((255 : Int) < v.a 100 (o.I v).toNat) = false; rw [decide_eq_false_iff_not]; omega
theorem good0 : ∃ J μ, Sx.Good bs1 sp0 J μ := ⟨J0, fun ρ v => (ρ.i 1 - v.i 100).toNat, {
  start := fun ρ hb _ => by
    have hf := hold_facts hb
    refine ⟨Int.le_refl _, ?_, ?_⟩
    · show (0 : Int) ≤ ρ.i 2; omega
    · show ρ.a 0 = stepped (ρ.a 0) 0; rw [stepped_0]
  head := fun ρ v hb _ hs hJ => by
    have hf := hold_facts hb
    obtain ⟨h1, h2, h3⟩ := hJ
    have h255 : ∀ m, 0 ≤ v.a 100 m ∧ v.a 100 m ≤ 255 := fun m => by rw [h3]; exact stepped_255 (fun n => hb.2.1 0 _ _ rfl n) _ _
    have hn : v.i 1 = ρ.i 1 := Sx.same_i hs (by decide)
    refine ⟨holds_cons ?_ (holds_cons ?_ (holds_cons ?_ (by_ok h255 (by_ok h255 (by_ok h255 (by_ok h255 holds_nil)))))), same1 ρ v hs hb⟩
    · show decide (v.i 100 < 0) = false; rw [decide_eq_false_iff_not]; omega
    · show decide (v.i 100 < v.i 1) = true; rw [decide_eq_true_eq]; omega
    · show decide (v.i 100 < 70368744177665) = true; rw [decide_eq_true_eq]; omega
  next := fun i w hw hkd ρ v hb _ hs hJ ht => by
    have hf := hold_facts hb
    obtain ⟨h1, h2, h3⟩ := hJ
    have hn : v.i 1 = ρ.i 1 := Sx.same_i hs (by decide)
    rcases i with _ | _ | _ | i
    · simp only [sp0, List.getElem?_cons_zero, Option.some.injEq] at hw
      subst hw
      obtain ⟨k, hk⟩ : ∃ k : Nat, v.i 100 = k := ⟨(v.i 100).toNat, by omega⟩
      rw [hk, Int.toNat_natCast] at h3
      have a1 : decide (v.i 100 + 1 < v.i 1) = true := ht _ List.mem_cons_self
      have a2 : nextE.T v = true := ht _ (List.mem_cons_of_mem _ List.mem_cons_self)
      rw [nextT hk h3, Bool.and_eq_true] at a2
      rw [decide_eq_true_eq] at a1
      have hstop := Sx.lead_stop (fun k => Sx.cellP 2 (ρ.a 0) (k * 2 + 2)) ((ρ.i 1).toNat - 1)
      have hland : landM (ρ.a 0) (ρ.i 1).toNat = Sx.lead (fun k => Sx.cellP 2 (ρ.a 0) (k * 2 + 2)) ((ρ.i 1).toNat - 1) := by unfold landM; rw [if_pos a2.1]; rfl
      have hne : k ≠ landM (ρ.a 0) (ρ.i 1).toNat := fun he => by
        have := hstop (by omega)
        rw [← hland, ← he] at this
        have a22 := a2.2
        rw [this] at a22; cases a22
      refine ⟨⟨?_, ?_, ?_⟩, ?_⟩
      · show 0 ≤ v.i 100 + 1; omega
      · show v.i 100 + 1 ≤ ρ.i 2; omega
      · show stepE.A v = stepped (ρ.a 0) (v.i 100 + 1).toNat
        rw [stepT hk h3, hk]; rfl
      · show (ρ.i 1 - (v.i 100 + 1)).toNat < (ρ.i 1 - v.i 100).toNat; omega
    · simp only [sp0, List.getElem?_cons_zero, List.getElem?_cons_succ, Option.some.injEq] at hw; subst hw; cases hkd
    · simp only [sp0, List.getElem?_cons_zero, List.getElem?_cons_succ, Option.some.injEq] at hw; subst hw; cases hkd
    · simp [sp0] at hw
  dead := fun i w hw hkd => by
    rcases i with _ | _ | _ | i
    · simp only [sp0, List.getElem?_cons_zero, Option.some.injEq] at hw; subst hw; cases hkd
    · simp only [sp0, List.getElem?_cons_zero, List.getElem?_cons_succ, Option.some.injEq] at hw; subst hw; cases hkd
    · simp only [sp0, List.getElem?_cons_zero, List.getElem?_cons_succ, Option.some.injEq] at hw; subst hw; cases hkd
    · simp [sp0] at hw
  out := fun i w hw hkd ρ v hb _ hs hJ ht => by
    have hf := hold_facts hb
    obtain ⟨h1, h2, h3⟩ := hJ
    have hn : v.i 1 = ρ.i 1 := Sx.same_i hs (by decide)
    obtain ⟨k, hk⟩ : ∃ k : Nat, v.i 100 = k := ⟨(v.i 100).toNat, by omega⟩
    rw [hk, Int.toNat_natCast] at h3
    have oe : k = landM (ρ.a 0) (ρ.i 1).toNat → Sx.OutEq v ρ { i := [(100, v100)], a := [(100, .av 100)] } { i := [(100, .var 2)], a := [(100, .av 1)] } := fun he => by
      refine ⟨fun q hq => ?_, fun q hq => absurd hq (by simp), fun q hq => ?_⟩
      · simp only [List.mem_cons, List.not_mem_nil, or_false] at hq
        subst hq
        show v.i 100 = ρ.i 2; omega
      · simp only [List.mem_cons, List.not_mem_nil, or_false] at hq
        subst hq
        show v.a 100 = ρ.a 1
        rw [h3, hf.2.2.2.2, he]
    rcases i with _ | _ | _ | i
    · simp only [sp0, List.getElem?_cons_zero, Option.some.injEq] at hw; subst hw; cases hkd
    · simp only [sp0, List.getElem?_cons_zero, List.getElem?_cons_succ, Option.some.injEq] at hw
      subst hw
      have a1 : decide (v.i 100 + 1 < v.i 1) = true := ht _ List.mem_cons_self
      have a2 : nextE.T v = false := ht _ (List.mem_cons_of_mem _ List.mem_cons_self)
      rw [nextT hk h3] at a2
      rw [decide_eq_true_eq] at a1
      have he : k = landM (ρ.a 0) (ρ.i 1).toNat := by
        cases h4 : Sx.cellP 4 (ρ.a 0) 0 with
        | false => have : landM (ρ.a 0) (ρ.i 1).toNat = 0 := by unfold landM; rw [h4]; rfl
                   omega
        | true =>
          rw [h4, Bool.true_and] at a2
          have hland : landM (ρ.a 0) (ρ.i 1).toNat = Sx.lead (fun k => Sx.cellP 2 (ρ.a 0) (k * 2 + 2)) ((ρ.i 1).toNat - 1) := by unfold landM; rw [if_pos h4]; rfl
          by_cases hlt : k < landM (ρ.a 0) (ρ.i 1).toNat
          · have := Sx.lead_all (fun k => Sx.cellP 2 (ρ.a 0) (k * 2 + 2)) ((ρ.i 1).toNat - 1) k (by omega)
            rw [this] at a2; cases a2
          · omega
      refine ⟨?_, oe he⟩
      have : (Sx.E.bin .lt (.bin .add (.var 2) (.lit 1)) (.var 1)).T ρ = true := by show decide (ρ.i 2 + 1 < ρ.i 1) = true; rw [decide_eq_true_eq]; omega
      simp only [sp0, Sx.selIx, this, if_true]
    · simp only [sp0, List.getElem?_cons_zero, List.getElem?_cons_succ, Option.some.injEq] at hw
      subst hw
      have a1 : decide (v.i 100 + 1 < v.i 1) = false := ht _ List.mem_cons_self
      rw [decide_eq_false_iff_not] at a1
      have he : k = landM (ρ.a 0) (ρ.i 1).toNat := by omega
      refine ⟨?_, oe he⟩
      have : (Sx.E.bin .lt (.bin .add (.var 2) (.lit 1)) (.var 1)).T ρ = false := by show decide (ρ.i 2 + 1 < ρ.i 1) = false; rw [decide_eq_false_iff_not]; omega
      have t : (Sx.E.bl true).T ρ = true := rfl
      simp only [sp0, Sx.selIx, this, t, if_true, Bool.false_eq_true, if_false]
    · simp [sp0] at hw
  fin := fun ρ hb _ => by
    simp only [sp0, Sx.FactsOk]
    split
    · exact holds_nil
    · have t : (Sx.E.bl true).T ρ = true := rfl
      rw [if_pos t]; exact holds_nil }⟩

/-! ### What all stand at then -/
def eqE (d : Int) (o : Sx.E) : Sx.E := .ite (.bin .eq (.var 2) v100) (.bin .eq (.bin .rd (.av 0) (.lit d)) (.bin .rd (.av 1) o)) (.ite (.bin .lt v100 (.var 2)) (.bin .eq (.bin .rd (.av 1) o) (.lit 0)) (.bin .eq (.bin .rd (.av 0) o) (.bin .rd (.av 1) o)))
def sp1 : Sx.LSpec where
  M := 100
  tpl := [(7, .c (.int .i64 v100))]
  ini := { i := [(100, .lit 0)] }
  hfs := [(.bin .lt v100 (.lit 0), false), (.bin .lt (.var 1) v100, false), (.bin .lt v100 (.lit 70368744177665), true)]
  ways := [{ tests := [(.bin .lt v100 (.var 1), true), (eqE 0 o0, true), (eqE 1 o1, true)], σ := { i := [(100, .bin .add v100 (.lit 1))] } },
    { tests := [(.bin .lt v100 (.var 1), true), (.bin .and (eqE 0 o0) (eqE 1 o1), false)], ex := .ret, kd := .dead },
    { tests := [(.bin .lt v100 (.var 1), false)], ex := .exit 2, kd := .out, σ := { i := [(100, v100)] }, fin := { i := [(100, .var 1)] } }]
theorem eqT {v : Val} {A : Nat → Int} {k K d : Nat} {o : Sx.E} (hd : d = 0 ∨ d = 1) (hk : v.i 100 = k) (h2 : v.i 2 = K) (h0 : v.a 0 = A) (h1 : v.a 1 = stepped A K) (ho : (o.I v).toNat = 2 * k + d) : (eqE d o).T v = true := by
  show (if (v.i 2 == v.i 100) = true then (v.a 0 ((d : Int).toNat) == v.a 1 (o.I v).toNat) else if decide (v.i 100 < v.i 2) = true then (v.a 1 (o.I v).toNat == 0) else (v.a 0 (o.I v).toNat == v.a 1 (o.I v).toNat)) = true
  rw [ho, h0, h1, hk, h2, Int.toNat_natCast]
  by_cases hc : K = k
  · subst hc
    rw [if_pos (by simp)]
    rcases hd with rfl | rfl
    · rw [stepped_a (by omega)]; exact beq_self_eq_true _
    · rw [stepped_b (by omega)]; exact beq_self_eq_true _
  · rw [if_neg (by rw [beq_iff_eq]; omega)]
    by_cases hl : k < K
    · rw [if_pos (by rw [decide_eq_true_eq]; omega), stepped_low (by omega)]; rfl
    · rw [if_neg (by rw [decide_eq_true_eq]; omega), stepped_hi (by omega)]; exact beq_self_eq_true _
theorem good1 : ∃ J μ, Sx.Good bs1 sp1 J μ := ⟨fun ρ v => 0 ≤ v.i 100 ∧ v.i 100 ≤ ρ.i 1, fun ρ v => (ρ.i 1 - v.i 100).toNat, {
  start := fun ρ hb _ => by
    have hf := hold_facts hb
    refine ⟨Int.le_refl _, ?_⟩
    show (0 : Int) ≤ ρ.i 1; omega
  head := fun ρ v hb _ hs hJ => by
    have hf := hold_facts hb
    have hn : v.i 1 = ρ.i 1 := Sx.same_i hs (by decide)
    refine ⟨holds_cons ?_ (holds_cons ?_ (holds_cons ?_ holds_nil)), same1 ρ v hs hb⟩
    · show decide (v.i 100 < 0) = false; rw [decide_eq_false_iff_not]; omega
    · show decide (v.i 1 < v.i 100) = false; rw [decide_eq_false_iff_not]; omega
    · show decide (v.i 100 < 70368744177665) = true; rw [decide_eq_true_eq]; omega
  next := fun i w hw hkd ρ v hb _ hs hJ ht => by
    have hn : v.i 1 = ρ.i 1 := Sx.same_i hs (by decide)
    rcases i with _ | _ | _ | i
    · simp only [sp1, List.getElem?_cons_zero, Option.some.injEq] at hw
      subst hw
      have a1 : decide (v.i 100 < v.i 1) = true := ht _ List.mem_cons_self
      rw [decide_eq_true_eq] at a1
      refine ⟨⟨?_, ?_⟩, ?_⟩
      · show 0 ≤ v.i 100 + 1; omega
      · show v.i 100 + 1 ≤ ρ.i 1; omega
      · show (ρ.i 1 - (v.i 100 + 1)).toNat < (ρ.i 1 - v.i 100).toNat; omega
    · simp only [sp1, List.getElem?_cons_zero, List.getElem?_cons_succ, Option.some.injEq] at hw; subst hw; cases hkd
    · simp only [sp1, List.getElem?_cons_zero, List.getElem?_cons_succ, Option.some.injEq] at hw; subst hw; cases hkd
    · simp [sp1] at hw
  dead := fun i w hw hkd ρ v hb _ hs hJ ht => by
    have hf := hold_facts hb
    rcases i with _ | _ | _ | i
    · simp only [sp1, List.getElem?_cons_zero, Option.some.injEq] at hw; subst hw; cases hkd
    · simp only [sp1, List.getElem?_cons_zero, List.getElem?_cons_succ, Option.some.injEq] at hw
      subst hw
      have a2 : ((eqE 0 o0).T v && (eqE 1 o1).T v) = false := ht _ (List.mem_cons_of_mem _ List.mem_cons_self)
      obtain ⟨k, hk⟩ : ∃ k : Nat, v.i 100 = k := ⟨(v.i 100).toNat, by omega⟩
      have s2 : v.i 2 = ρ.i 2 := Sx.same_i hs (by decide)
      have s0 : v.a 0 = ρ.a 0 := Sx.same_a hs (by decide)
      have s1 : v.a 1 = ρ.a 1 := Sx.same_a hs (by decide)
      have e0 := eqT (d := 0) (o := o0) (.inl rfl) hk (s2.trans hf.2.2.1) s0 (s1.trans hf.2.2.2.2) (o0I hk)
      have e1 := eqT (d := 1) (o := o1) (.inr rfl) hk (s2.trans hf.2.2.1) s0 (s1.trans hf.2.2.2.2) (o1I hk)
      have e0 : (eqE 0 o0).T v = true := e0
      have e1 : (eqE 1 o1).T v = true := e1
      rw [e0, e1] at a2; cases a2
    · simp only [sp1, List.getElem?_cons_zero, List.getElem?_cons_succ, Option.some.injEq] at hw; subst hw; cases hkd
    · simp [sp1] at hw
  out := fun i w hw hkd ρ v hb _ hs hJ ht => by
    have hn : v.i 1 = ρ.i 1 := Sx.same_i hs (by decide)
    rcases i with _ | _ | _ | i
    · simp only [sp1, List.getElem?_cons_zero, Option.some.injEq] at hw; subst hw; cases hkd
    · simp only [sp1, List.getElem?_cons_zero, List.getElem?_cons_succ, Option.some.injEq] at hw; subst hw; cases hkd
    · simp only [sp1, List.getElem?_cons_zero, List.getElem?_cons_succ, Option.some.injEq] at hw
      subst hw
      have a1 : decide (v.i 100 < v.i 1) = false := ht _ List.mem_cons_self
      rw [decide_eq_false_iff_not] at a1
      refine ⟨?_, ⟨fun q hq => ?_, fun q hq => absurd hq (by simp), fun q hq => absurd hq (by simp)⟩⟩
      · simp only [sp1, Sx.selIx, Sx.E.T, if_true]
      · simp only [List.mem_cons, List.not_mem_nil, or_false] at hq
        subst hq
        show v.i 100 = ρ.i 1; omega
    · simp [sp1] at hw
  fin := fun ρ hb _ => by
    simp only [sp1, Sx.FactsOk, Sx.E.T, if_true]
    exact holds_nil }⟩

/-! ### The run -/
def XL : Sx.MV := .c (.int .i64 (.var 2))
def slT : List (Nat × Sx.KnownS) := [(14, Sx.arrC bs1 [.u8, .u8] (.av 0) (.var 1) XL)]
theorem rng (ρ : Val) (hb : bs1.hold ρ) : 0 < (Sx.E.var 1).I ρ ∧ (Sx.E.var 1).I ρ ≤ 70368744177663 ∧ ∀ n, ∃ k ∈ ([.u8, .u8] : List IntKind), k.min ≤ (Sx.E.av 0).A ρ n ∧ (Sx.E.av 0).A ρ n ≤ k.max := by
  have h1 := hb.1 1 _ _ rfl
  exact ⟨show 0 < ρ.i 1 by omega, h1.2, fun n => ⟨.u8, by simp, hb.2.1 0 _ _ rfl n⟩⟩
theorem xl (Γ : Sx.Ctx) (hb : bs1.hold Γ.ρ) : XL.rel Γ (Fa.landR ((Sx.E.av 0).A Γ.ρ) ((Sx.E.var 1).I Γ.ρ).toNat) := by
  show Fa.landR (Γ.ρ.a 0) (Γ.ρ.i 1).toNat = .int .i64 (Γ.ρ.i 2)
  rw [hb.2.2.1, ← landM_eq]; rfl
theorem slT_ok : Sx.EntriesS Try.prog bs1 slT :=
  ⟨Sx.arrC_entry ⟨_, Try.func14, by kernel_rfl, by kernel_rfl⟩ Fa.c14 rng xl (fun _ => trivial), trivial⟩
noncomputable def loops1 : List (Nat × Code) := [(0, Sx.loopAt Try.f6 0), (1, Sx.loopAt Try.f6 1)]
noncomputable def tab1 : Sx.Tab := [(0, (Sx.loopAt Try.f6 0, [{ sp := sp0 }])), (1, (Sx.loopAt Try.f6 1, [{ sp := sp1 }]))]
noncomputable def E1 : Env := { bs := bs1, sum := Sx.tabS slT (Kc.sT bs1), fns := [(6, Sx.Func.marked Try.f6 [(0, 0), (1, 1)]), (9, Try.f9), (26, Try.f26), (27, Try.f27), (28, Try.f28)], loops := Sx.runTab bs1 tab1, lk := Sx.lkOf loops1 }
theorem e1Ok : E1.Ok Try.prog :=
  Sx.env_ok (Sx.forall_cons (Sx.fnOk_marked Try.func6 (by kernel_rfl) (by kernel_rfl) (Sx.forall_cons rfl (Sx.forall_cons rfl Sx.forall_nil)))
    (Sx.forall_cons (Sx.fnOk_plain Try.func9 (by kernel_rfl) (by kernel_rfl)) (Sx.forall_cons (Sx.fnOk_plain Try.func26 (by kernel_rfl) (by kernel_rfl)) (Sx.forall_cons (Sx.fnOk_plain Try.func27 (by kernel_rfl) (by kernel_rfl)) (Sx.forall_cons (Sx.fnOk_plain Try.func28 (by kernel_rfl) (by kernel_rfl)) Sx.forall_nil)))))
    (Sx.loopsOk_mem (l := loops1) (tab := tab1) rfl rfl (Sx.forall_cons (Sx.mk_eq (by kernel_rfl) rfl) (Sx.forall_cons (Sx.mk_eq (by kernel_rfl) rfl) Sx.forall_nil)) (Sx.forall_cons (Sx.forall_cons good0 Sx.forall_nil) (Sx.forall_cons (Sx.forall_cons good1 Sx.forall_nil) Sx.forall_nil)))
def long (b : Bool) : List (Sx.E × Bool) := (.bin .lt (.lit 200) (.var 1), b) :: Fa.base
theorem walk {v : Value} {w : World} (h : SlIn w [.u8, .u8] v) : Calls Try.prog 6 #[v] w fun e w' => e = .returned (.bool true) ∧ Below w.heap.size w w' :=
  Sx.law_sl (nilWalk w) (emptyWalk w) (fun g off len cap A h0 hc hl hA hr => Sx.sl_row (E := E1) (n := 3000) Try.checked.mixed e1Ok (Sx.tabS_sound slT_ok (Kc.sT_ok _)) (Sx.tabS_sure slT_ok (Kc.sT_ok _)) pro pro_ok hold1
    [long false, long true] (fun A off len cap h0 hc _ => by
      cases hb : (Sx.E.bin .lt (.lit 200) (.var 1)).T (pro A off len cap) with
      | false => exact ⟨_, List.mem_cons_self, holds_cons hb (base_ok h0 hc)⟩
      | true => exact ⟨_, List.mem_cons_of_mem _ List.mem_cons_self, holds_cons hb (base_ok h0 hc)⟩) (Sx.forall_cons (by kernel_rfl) (Sx.forall_cons (by kernel_rfl) Sx.forall_nil)) w g off len cap A h0 hc hl hA hr) h

set_option maxRecDepth 100000 in
theorem lifted (os : Os) (started : os.Started) (H : Type) (enc : TypeId × Value → H) :
    ReturnsInHanded {} Try.checked os 6 .any (Rows.fallStepsSpec.pre6 enc Try.prog Try.f6 Rows.fallStepsRow.domain false) (Rows.fallStepsSpec.post enc Try.prog Try.f6 false true false false) := by
  refine returnsInHanded_of_change_sized (C := Try.checked) own started (by kernel_rfl) Try.func6
    (ChangeSpec.witness6 (enc := enc) (C := Try.checked) false ⟨#[], #[.slice none 0 0], []⟩ 8 (by kernel_rfl) (by kernel_rfl) (by kernel_rfl) (by kernel_rfl)) ?_
  intro W base args ds gs before hval0 hW _ hsz0 _
  have hsz : (DataW.weightsEach Try.prog (Try.f6.params.toList ++ Rows.fallStepsSpec.plain.varTypes Try.prog) (ds ++ gs)).all (· ≤ reachBytes) = true := hsz0
  have hval : ∀ (j : Nat) t v, Try.f6.params[j]? = some t → args[j]? = some v → Value.okWide Try.prog W .any base t v := hval0
  have hW' := hW
  obtain ⟨p, q, hA0, hV, rfl, hfz, hnd⟩ := hW
  have hA : DataW.TrodAll enc Try.prog W 0 (fun _ => true) true Try.f6.params.toList args.toList ds p := hA0
  rw [Try.params6] at hA hval hsz
  obtain ⟨v0, vs0, d0, ds0, p0, q0, hargs, rfl, rfl, h0, r0⟩ := trodAll_cons hA
  obtain ⟨rfl, rfl, rfl⟩ := trodAll_nil r0
  obtain rfl : args = #[v0] := by cases args; simp_all
  obtain ⟨rfl, rfl⟩ := trodVars_none hV
  have lt0 : ∀ x ∈ p0, x.block < W.heap.size := by obtain ⟨m, hm⟩ := h0; exact DataW.trod_lt m _ _ _ hm
  have hsl : SlIn W [.u8, .u8] v0 := Sx.slIn_of (d := 8) Try.underlying38 (by kernel_rfl) (by kernel_rfl) (by decide) (hval 0 _ v0 rfl rfl) h0 (fun el sp hd => by
    subst hd
    have := sized_slice hsz (j := 0) (t := 38) (e := 23) rfl rfl Try.underlying38
    rw [bytesEl] at this
    simp only [reachBytes] at this
    omega)
  clear hA0 hval0 hsz0
  refine (walk hsl).mono fun e W' ⟨he, bel⟩ => ?_
  subst he
  exact ⟨_, rfl, _, _, _, [], _, [], hW', trodAll_mk1 (shut_bool Try.underlying4 _), (trodAll_cons_mk (Below.trod laidOut (by kernel_rfl) (of_decide_eq_true (by kernel_rfl)) h0 bel lt0) trodAll_mk0), rfl, bel.frame _, fun h => by cases h⟩

theorem over : Rows.fallStepsRow.holds Try.pinned (OpenSpec.ofChange Rows.fallStepsSpec) :=
  OpenClaim.holds_of_wide 6 Try.f6 rfl rfl rfl rfl rfl rfl rfl ⟨rfl, rfl, rfl, rfl, rfl⟩ rfl rfl rfl rfl rfl (by kernel_rfl) Try.func6 (by kernel_rfl)
    (of_decide_eq_true (by kernel_rfl)) (by unfold Func.isWrapper; first | (rw [if_pos (by decide +kernel)]; kernel_rfl) | (rw [if_neg (by decide +kernel)]; exact ⟨rfl, rfl⟩))
    (fun os started H enc _ => lifted os started H enc)

/-- THE STATEMENT. -/
theorem proved : Rows.FallStepsSaid := over
#print axioms proved
end Go.Proofs.Ytdkdoopimfchbaa.fallSteps
