/- 'BurnGrows' of chapter 14 holds as stated: for every input the law returns true, and the arguments read afterwards as before, for every world it is called in. -/
import Derived.Test.YthicccjkjmkocaaRows
import Derived.Test.YthicccjkjmkocaaSyf
import Derived.Test.YthicccjkjmkocaaKc
import Derived.WalkKit
import Derived.ProofKit
import Derived.OpenShut
import Derived.ChangeOld
import Derived.Below
import Derived.SizedLaws
namespace Go.Proofs.Ythicccjkjmkocaa.burnGrows
open Go.ChangeShapes Go.WideShapes Go.ChangeAt Go.RowKit
open Sx (Env evF callF Val Bds Holds holds_cons holds_nil SlIn)
set_option linter.unusedVariables false

theorem own : ownKnob Try.prog.godebug = none := by kernel_rfl
theorem laidOut : laidOutB Try.prog = true := by kernel_rfl
theorem bytesEl : Try.prog.bytesOf 26 = 8 := by kernel_rfl

/-! ### The near cell, and its draws -/
def nearK : List IntKind := [.u8, .u8, .u8, .u8, .u8, .u8, .u8, .u8, .u8, .u8, .u8, .u8, .u8, .u8, .u8, .u8, .u8, .u8, .u8, .u8, .u8, .u8, .u8, .u64]
def nearM : Sx.MV := .agg (Sx.rowM 2 nearK)
def grownAt (A : Nat → Int) : Nat → Nat
  | 0 => 0
  | i + 1 => if grownAt A i < 4 ∧ A i % 4 = 0 then grownAt A i + 1 else grownAt A i
theorem grown_le (A : Nat → Int) : ∀ i, grownAt A i ≤ 4
  | 0 => by simp [grownAt]
  | i + 1 => by have := grown_le A i; unfold grownAt; split <;> omega
def endI (A : Nat → Int) (n : Nat) : Nat := Sx.lead (fun i => decide (grownAt A i < 4)) (min n 40)
def drawAt (A : Nat → Int) (d : Int) (i : Nat) : Int := if i = 0 then d else A (i - 1)
def pro (zs : List Int) (A : Nat → Int) (off len cap : Nat) : Val := ⟨fun i => if i = 91 then off else if i = 1 then len else if i = 90 then cap else if i = 26 then endI A len else if i = 27 then grownAt A (endI A len) else if i = 28 then drawAt A (zs.getD 23 0) (endI A len) else if i = 0 then 0 else zs.getD (i - 2) 0, fun _ => false, fun j => if j = 0 then A else fun _ => 0, fun _ => ByteArray.empty⟩
def base : List (Sx.E × Bool) := [(.bin .lt (.var 91) (.lit 0), false), (.bin .lt (.var 90) (.var 1), false), (.bin .lt (.lit 0) (.var 1), true)]
theorem base_ok {zs : List Int} {A : Nat → Int} {off len cap : Nat} (h0 : 0 < len) (hc : len ≤ cap) : Holds base (pro zs A off len cap) := by
  refine holds_cons ?_ (holds_cons ?_ (holds_cons ?_ holds_nil)) <;> simp only [Sx.E.T, Sx.E.I, pro, Nat.reduceEqDiff, if_true, if_false, decide_eq_false_iff_not, decide_eq_true_eq] <;> omega
def b8 : Int × Int := (0, 255)
def bsG : Bds where
  v := [(0, 0), (0, 70368744177663), b8, b8, b8, b8, b8, b8, b8, b8, b8, b8, b8, b8, b8, b8, b8, b8, b8, b8, b8, b8, b8, b8, b8, (0, 18446744073709551615), (0, 40), (0, 4), (0, 18446744073709551615)]
  a := [(0, 18446744073709551615)]
  J := fun ρ => ρ.i 26 = (endI (ρ.a 0) (ρ.i 1).toNat : Nat) ∧ ρ.i 27 = (grownAt (ρ.a 0) (endI (ρ.a 0) (ρ.i 1).toNat) : Nat) ∧ ρ.i 28 = drawAt (ρ.a 0) (ρ.i 25) (endI (ρ.a 0) (ρ.i 1).toNat)
theorem bsG_v : bsG.v = (0, 0) :: (0, 70368744177663) :: (nearK.map (fun k => (k.min, k.max)) ++ [(0, 40), (0, 4), (0, 18446744073709551615)]) := by decide
theorem u64s {A : Nat → Int} (h : ∀ n, ∃ k ∈ ([.u64] : List IntKind), k.min ≤ A n ∧ A n ≤ k.max) (n : Nat) : 0 ≤ A n ∧ A n ≤ 18446744073709551615 := by
  obtain ⟨k, hk, h1⟩ := h n
  simp only [List.mem_cons, List.not_mem_nil, or_false] at hk
  subst hk
  exact h1
theorem holdG {zs : List Int} (hz : Sx.Fit nearK zs) (A : Nat → Int) (off len cap : Nat) (hl : len ≤ 70368744177663) (hA : ∀ n, 0 ≤ A n ∧ A n ≤ 18446744073709551615) : bsG.hold (pro zs A off len cap) := by
  have he : endI A len ≤ min len 40 := Sx.lead_le _ _
  have hg := grown_le A (endI A len)
  have h23 := hz.get 23 0 18446744073709551615 (by decide)
  refine ⟨fun i l u h => ?_, fun i l u h n => ?_, rfl, rfl, rfl⟩
  · rw [bsG_v] at h
    rcases i with _ | _ | i
    · simp at h; obtain ⟨rfl, rfl⟩ := h
      exact ⟨Int.le_refl _, Int.le_refl _⟩
    · simp at h; obtain ⟨rfl, rfl⟩ := h; show 0 ≤ (len : Int) ∧ (len : Int) ≤ _; omega
    · simp only [List.getElem?_cons_succ] at h
      by_cases hi : i < 24
      · rw [List.getElem?_append_left (by rw [List.length_map]; exact hi)] at h
        have := hz.get i l u h
        show l ≤ (pro zs A off len cap).i (i + 2) ∧ _
        simp only [pro]
        rw [if_neg (by omega), if_neg (by omega), if_neg (by omega), if_neg (by omega), if_neg (by omega), if_neg (by omega), if_neg (by omega)]
        exact this
      · rw [List.getElem?_append_right (by rw [List.length_map]; exact Nat.le_of_not_lt hi)] at h
        obtain ⟨j, rfl⟩ : ∃ j, i = j + 24 := ⟨i - 24, by omega⟩
        rw [List.length_map, show j + 24 - nearK.length = j from by simp [nearK]] at h
        rcases j with _ | _ | _ | j
        · simp at h; obtain ⟨rfl, rfl⟩ := h; show 0 ≤ ((endI A len : Nat) : Int) ∧ ((endI A len : Nat) : Int) ≤ 40; omega
        · simp at h; obtain ⟨rfl, rfl⟩ := h; show 0 ≤ ((grownAt A (endI A len) : Nat) : Int) ∧ ((grownAt A (endI A len) : Nat) : Int) ≤ 4; omega
        · simp at h; obtain ⟨rfl, rfl⟩ := h; show 0 ≤ drawAt A (zs.getD 23 0) (endI A len) ∧ drawAt A (zs.getD 23 0) (endI A len) ≤ _
          unfold drawAt
          split
          · exact h23
          · exact hA _
        · simp at h
  · rcases i with _ | i
    · simp [bsG] at h; obtain ⟨rfl, rfl⟩ := h; exact hA n
    · simp [bsG] at h
theorem nearRel {Γ : Sx.Ctx} {zs : List Int} (hz : Sx.Fit nearK zs) {A : Nat → Int} {off len cap : Nat} (h : Γ.ρ = pro zs A off len cap) : nearM.rel Γ (.agg (Sx.intsOf nearK zs).toArray) := by
  simp only [nearM, Sx.MV.rel, Sx.MV.den]
  rw [Sx.row_den 2 hz fun j hj => ?_]
  have hj : j < 24 := by rw [hz.length] at hj; exact hj
  rw [h]
  simp only [pro]
  rw [if_neg (by omega), if_neg (by omega), if_neg (by omega), if_neg (by omega), if_neg (by omega), if_neg (by omega), if_neg (by omega), Nat.add_sub_cancel_left]
def zA : Nat → Int := fun _ => 0

/-! ### Without draws: run as it stands -/
noncomputable def E0 : Env := { bs := bsG, sum := Sx.tabC (Kc.sT bsG), fns := [(10, Try.f10), (12, Try.f12), (13, Try.f13), (14, Try.f14), (18, Try.f18), (19, Try.f19), (21, Try.f21), (22, Try.f22), (24, Try.f24), (25, Try.f25), (27, Try.f27), (28, Try.f28), (29, Try.f29), (31, Try.f31)] }
theorem e0Ok : E0.Ok Try.prog := Sx.ok_of (E := E0) ⟨⟨Try.func10, by kernel_rfl⟩, ⟨Try.func12, by kernel_rfl⟩, ⟨Try.func13, by kernel_rfl⟩, ⟨Try.func14, by kernel_rfl⟩, ⟨Try.func18, by kernel_rfl⟩, ⟨Try.func19, by kernel_rfl⟩, ⟨Try.func21, by kernel_rfl⟩, ⟨Try.func22, by kernel_rfl⟩, ⟨Try.func24, by kernel_rfl⟩, ⟨Try.func25, by kernel_rfl⟩, ⟨Try.func27, by kernel_rfl⟩, ⟨Try.func28, by kernel_rfl⟩, ⟨Try.func29, by kernel_rfl⟩, ⟨Try.func31, by kernel_rfl⟩, trivial⟩ rfl rfl
theorem nilWalk {zs : List Int} (hz : Sx.Fit nearK zs) (w : World) : Calls Try.prog 10 #[.agg (Sx.intsOf nearK zs).toArray, .slice none 0 0] w fun e w' => e = .returned (.bool true) ∧ Below w.heap.size w w' :=
  Sx.law_start (Γ := ⟨pro zs zA 0 0 0, fun j => j, fun j => j⟩) (L := fun _ => False) (S := {}) (fs := []) (args := [nearM, .c .nils]) (vs := [.agg (Sx.intsOf nearK zs).toArray, .slice none 0 0]) (Sx.fast_sound (E := E0) Try.checked.mixed e0Ok (Sx.tabC_sound (Kc.sT_ok _)) (Sx.tabC_sure (Kc.sT_ok _)) 3000) (Sx.fast_sure e0Ok (Sx.tabC_sure (Kc.sT_ok _)) 3000)
    (.cons ⟨nearRel hz rfl, Sx.row_on nearK 2⟩ (.cons ⟨show Sx.MV.rel _ (Sx.MV.c Sx.MC.nils) _ from rfl, trivial⟩ .nil)) (Sx.rel_none _ w) (fun _ h => h.elim) (holdG hz _ _ _ _ (by decide) (fun _ => ⟨Int.le_refl _, show (0 : Int) ≤ 18446744073709551615 by decide⟩)) (fun p hp => absurd hp (by simp)) (by kernel_rfl)
theorem emptyWalk {zs : List Int} (hz : Sx.Fit nearK zs) (w : World) (g off cap : Nat) : Calls Try.prog 10 #[.agg (Sx.intsOf nearK zs).toArray, .slice (some ⟨g, off, none⟩) 0 cap] w fun e w' => e = .returned (.bool true) ∧ Below w.heap.size w w' := by
  refine Sx.law_start (Γ := Sx.Γ1 (pro zs zA off 0 cap) g) (L := Sx.L1) (S := Sx.goneS) (fs := Sx.factsOf [(.bin .lt (.var 91) (.lit 0), false), (.bin .lt (.var 90) (.lit 0), false)]) (args := [nearM, .c Sx.emptyM]) (vs := [.agg (Sx.intsOf nearK zs).toArray, .slice (some ⟨g, off, none⟩) 0 cap]) (Sx.fast_sound (E := E0) Try.checked.mixed e0Ok (Sx.tabC_sound (Kc.sT_ok _)) (Sx.tabC_sure (Kc.sT_ok _)) 3000) (Sx.fast_sure e0Ok (Sx.tabC_sure (Kc.sT_ok _)) 3000)
    (.cons ⟨nearRel hz rfl, Sx.row_on nearK 2⟩ (.cons ⟨?_, ?_⟩ .nil)) (Sx.gone_rel _ w) (fun j hj => by rw [show j = 0 from hj]; show (0 : Nat) < 1; omega) (holdG hz _ _ _ _ (by decide) (fun _ => ⟨Int.le_refl _, show (0 : Int) ≤ 18446744073709551615 by decide⟩)) (Sx.factsOf_hold (holds_cons ?_ (holds_cons ?_ holds_nil))) (by kernel_rfl)
  · rfl
  · show Sx.L1 0; rfl
  · show decide (((off : Nat) : Int) < 0) = false; rw [decide_eq_false_iff_not]; omega
  · show decide (((cap : Nat) : Int) < 0) = false; rw [decide_eq_false_iff_not]; omega

/-! ### Draw by draw -/
def v100 : Sx.E := .var 100
def v101 : Sx.E := .var 101
def v102 : Sx.E := .var 102
def v103 : Sx.E := .var 103
def v104 : Sx.E := .var 104
def cells : List Sx.MC := [.int .u8 v103, .int .u8 v104, .int .u8 (.var 4), .int .u8 (.var 5), .int .u8 (.var 6), .int .u8 (.var 7), .int .u8 (.var 8), .int .u8 (.var 9), .int .u8 (.var 10), .int .u8 (.var 11), .int .u8 (.var 12), .int .u8 (.var 13), .int .u8 (.lit 3), .int .u8 (.lit 0), .int .u8 (.var 16), .int .u8 (.var 17), .int .u8 (.var 18), .int .u8 (.var 19), .int .u8 (.var 20), .int .u8 (.var 21), .int .u8 (.var 22), .int .u8 (.var 23), .int .u8 (.bin .add (.bin .mod (.var 24) (.lit 7)) (.lit 9)), .int .u64 v102]
def cnd : Sx.E := .bin .and (.bin .lt v100 (.var 1)) (.bin .and (.bin .lt v100 (.lit 40)) (.bin .lt v101 (.lit 4)))
def drw : Sx.E := .bin .rd (.av 0) v100
def four : Sx.E := .bin .eq (.bin .mod drw (.lit 4)) (.lit 0)
def may : Sx.E := .bin (.gb 0) v103 v104
def plant : Sx.E := .bin .eq v103 (.lit 12)
def less : Sx.E := .bin .lt v104 (.lit 3)
def by1 (e : Sx.E) (l : List (Sx.E × Bool)) : List (Sx.E × Bool) := (.bin .lt e (.lit 0), false) :: (.bin .lt (.lit 255) e, false) :: l
def sp0 : Sx.LSpec where
  M := 100
  tpl := [(6, .c (.int .i64 v100)), (5, .c (.int .i64 v101))]
  tplB := [(1, .cells cells 28 0)]
  ini := { i := [(100, .lit 0), (101, .lit 0), (102, .var 25), (103, .lit 12), (104, .lit 0)] }
  hfs := (.bin .lt v100 (.lit 0), false) :: (.bin .lt (.lit 40) v100, false) :: (.bin .lt v101 (.lit 0), false) :: (.bin .lt (.lit 4) v101, false) :: by1 v103 (by1 v104 [])
  d := [1]
  ways := [{ tests := [(cnd, true), (four, false), (may, true), (plant, true)], σ := { i := [(100, .bin .add v100 (.lit 1)), (102, drw)] } },
    { tests := [(cnd, true), (four, true), (may, true), (plant, true)], σ := { i := [(100, .bin .add v100 (.lit 1)), (101, .bin .add v101 (.lit 1)), (102, drw), (103, .ite less (.lit 12) (.lit 7)), (104, .ite less (.bin .add (.ite (.un .not may) (.lit 0) v104) (.lit 1)) (.lit 0))] } },
    { tests := [(cnd, true), (.bin .and may plant, false)], ex := .ret, kd := .dead },
    { tests := [(cnd, false)], ex := .exit 0, kd := .out, σ := { i := [(100, v100), (101, v101), (102, v102), (103, v103), (104, v104)] },
      fin := { i := [(100, .var 26), (101, .var 27), (102, .var 28), (103, .ite (.bin .eq (.var 27) (.lit 4)) (.lit 7) (.lit 12)), (104, .ite (.bin .eq (.var 27) (.lit 4)) (.lit 0) (.var 27))] } }]
theorem sameG (ρ v : Val) (hs : Sx.SameB ⟨100, [], [], []⟩ v ρ) (h : bsG.hold ρ) : bsG.hold v := Sx.hold_same hs (by decide) (by decide) (fun hJ => by
  refine ⟨?_, ?_, ?_⟩
  · rw [Sx.same_i hs (by decide), Sx.same_i hs (by decide), Sx.same_a hs (by decide)]; exact hJ.1
  · rw [Sx.same_i hs (by decide), Sx.same_i hs (by decide), Sx.same_a hs (by decide)]; exact hJ.2.1
  · rw [Sx.same_i hs (by decide), Sx.same_i hs (by decide), Sx.same_i hs (by decide), Sx.same_a hs (by decide)]; exact hJ.2.2) h
structure J0 (ρ v : Val) (i g : Nat) : Prop where
  ei : v.i 100 = i
  eg : v.i 101 = g
  eq : g = grownAt (ρ.a 0) i
  le : i ≤ min (ρ.i 1).toNat 40
  all : ∀ j, j < i → decide (grownAt (ρ.a 0) j < 4) = true
  d : v.i 102 = drawAt (ρ.a 0) (ρ.i 25) i
  k : v.i 103 = if g = 4 then (7 : Int) else 12
  l : v.i 104 = if g = 4 then (0 : Int) else (g : Int)
theorem cndT {ρ v : Val} {i g : Nat} (hn : v.i 1 = ρ.i 1) (h0 : 0 ≤ ρ.i 1) (h : J0 ρ v i g) : cnd.T v = decide (i < min (ρ.i 1).toNat 40 ∧ g < 4) := by
  show (decide (v.i 100 < v.i 1) && (decide (v.i 100 < 40) && decide (v.i 101 < 4))) = _
  rw [h.ei, h.eg, hn, Bool.eq_iff_iff, Bool.and_eq_true, Bool.and_eq_true, decide_eq_true_iff, decide_eq_true_iff, decide_eq_true_iff, decide_eq_true_iff]
  omega
theorem mayP : ∀ g : Nat, g < 4 → Sx.phiB2 0 12 (g : Int) = true
  | 0, _ => rfl
  | 1, _ => rfl
  | 2, _ => rfl
  | 3, _ => rfl
  | n + 4, h => by omega
theorem good0 : ∃ J μ, Sx.Good bsG sp0 J μ := ⟨fun ρ v => ∃ i g, J0 ρ v i g, fun ρ v => ((40 : Int) - v.i 100).toNat, {
  start := fun ρ hb _ => ⟨0, 0, rfl, rfl, rfl, by omega, fun j hj => by omega, rfl, rfl, rfl⟩
  head := fun ρ v hb _ hs ⟨i, g, h⟩ => by
    have hg := grown_le (ρ.a 0) i
    have he := h.eq
    have hi := h.ei
    have hgg := h.eg
    have hle := h.le
    have hk := h.k
    have hl := h.l
    refine ⟨holds_cons ?_ (holds_cons ?_ (holds_cons ?_ (holds_cons ?_ (holds_cons ?_ (holds_cons ?_ (holds_cons ?_ (holds_cons ?_ holds_nil))))))), sameG ρ v hs hb⟩
    · show decide (v.i 100 < 0) = false; rw [decide_eq_false_iff_not]; omega
    · show decide ((40 : Int) < v.i 100) = false; rw [decide_eq_false_iff_not]; omega
    · show decide (v.i 101 < 0) = false; rw [decide_eq_false_iff_not]; omega
    · show decide ((4 : Int) < v.i 101) = false; rw [decide_eq_false_iff_not]; omega
    · show decide (v.i 103 < 0) = false; rw [decide_eq_false_iff_not, hk]; split <;> omega
    · show decide ((255 : Int) < v.i 103) = false; rw [decide_eq_false_iff_not, hk]; split <;> omega
    · show decide (v.i 104 < 0) = false; rw [decide_eq_false_iff_not, hl]; split <;> omega
    · show decide ((255 : Int) < v.i 104) = false; rw [decide_eq_false_iff_not, hl]; split <;> omega
  next := fun i w hw hkd ρ v hb _ hs ⟨j, g, h⟩ ht => by
    have hn : v.i 1 = ρ.i 1 := Sx.same_i hs (by decide)
    have ha : v.a 0 = ρ.a 0 := Sx.same_a hs (by decide)
    have h1 := (hb.1 1 _ _ rfl).1
    have hc := cndT hn h1 h
    have fourT : four.T v = decide (ρ.a 0 j % 4 = 0) := by
      show (v.a 0 (v.i 100).toNat % 4 == 0) = _
      rw [h.ei, Int.toNat_natCast, ha, Bool.eq_iff_iff, beq_iff_eq, decide_eq_true_iff]
    have drwI : drw.I v = drawAt (ρ.a 0) (ρ.i 25) (j + 1) := by
      show v.a 0 (v.i 100).toNat = _
      rw [h.ei, Int.toNat_natCast, ha]; rfl
    rcases i with _ | _ | _ | _ | i
    · simp only [sp0, List.getElem?_cons_zero, Option.some.injEq] at hw
      subst hw
      have a1 : cnd.T v = true := ht _ List.mem_cons_self
      have a2 : four.T v = false := ht _ (List.mem_cons_of_mem _ List.mem_cons_self)
      rw [hc, decide_eq_true_iff] at a1
      rw [fourT, decide_eq_false_iff_not] at a2
      refine ⟨⟨j + 1, g, ?_, h.eg, ?_, by omega, fun q hq => ?_, drwI, h.k, h.l⟩, ?_⟩
      · show v.i 100 + 1 = _; rw [h.ei]; omega
      · unfold grownAt; rw [if_neg (fun hh => a2 hh.2)]; exact h.eq
      · rcases Nat.lt_or_ge q j with hq' | hq'
        · exact h.all q hq'
        · rw [show q = j from by omega, ← h.eq, decide_eq_true_iff]; exact a1.2
      · show ((40 : Int) - (v.i 100 + 1)).toNat < ((40 : Int) - v.i 100).toNat
        rw [h.ei]; omega
    · simp only [sp0, List.getElem?_cons_zero, List.getElem?_cons_succ, Option.some.injEq] at hw
      subst hw
      have a1 : cnd.T v = true := ht _ List.mem_cons_self
      have a2 : four.T v = true := ht _ (List.mem_cons_of_mem _ List.mem_cons_self)
      have a3 : may.T v = true := ht _ (List.mem_cons_of_mem _ (List.mem_cons_of_mem _ List.mem_cons_self))
      rw [hc, decide_eq_true_iff] at a1
      rw [fourT, decide_eq_true_iff] at a2
      have hl : v.i 104 = g := by rw [h.l, if_neg (by omega)]
      have lessT : less.T v = decide (g < 3) := by
        show decide (v.i 104 < 3) = _
        rw [hl, Bool.eq_iff_iff, decide_eq_true_iff, decide_eq_true_iff]; omega
      refine ⟨⟨j + 1, g + 1, ?_, ?_, ?_, by omega, fun q hq => ?_, drwI, ?_, ?_⟩, ?_⟩
      · show v.i 100 + 1 = _; rw [h.ei]; omega
      · show v.i 101 + 1 = _; rw [h.eg]; omega
      · unfold grownAt; rw [if_pos ⟨by rw [← h.eq]; exact a1.2, a2⟩, ← h.eq]
      · rcases Nat.lt_or_ge q j with hq' | hq'
        · exact h.all q hq'
        · rw [show q = j from by omega, ← h.eq, decide_eq_true_iff]; exact a1.2
      · show (if less.T v = true then (12 : Int) else 7) = _
        rw [lessT]
        by_cases h3 : g < 3
        · rw [if_pos (by simp [h3]), if_neg (by omega)]
        · rw [if_neg (by simp [h3]), if_pos (by omega)]
      · show (if less.T v = true then (if (!(may.T v)) = true then 0 else v.i 104) + 1 else 0) = _
        rw [lessT, a3, show (if (!true) = true then (0 : Int) else v.i 104) = v.i 104 from rfl, hl]
        by_cases h3 : g < 3
        · rw [if_pos (by simp [h3]), if_neg (by omega)]; rfl
        · rw [if_neg (by simp [h3]), if_pos (by omega)]
      · show ((40 : Int) - (v.i 100 + 1)).toNat < ((40 : Int) - v.i 100).toNat
        rw [h.ei]; omega
    · simp only [sp0, List.getElem?_cons_zero, List.getElem?_cons_succ, Option.some.injEq] at hw; subst hw; cases hkd
    · simp only [sp0, List.getElem?_cons_zero, List.getElem?_cons_succ, Option.some.injEq] at hw; subst hw; cases hkd
    · simp [sp0] at hw
  dead := fun i w hw hkd ρ v hb _ hs ⟨j, g, h⟩ ht => by
    have hn : v.i 1 = ρ.i 1 := Sx.same_i hs (by decide)
    have h1 := (hb.1 1 _ _ rfl).1
    have hc := cndT hn h1 h
    rcases i with _ | _ | _ | _ | i
    · simp only [sp0, List.getElem?_cons_zero, Option.some.injEq] at hw; subst hw; cases hkd
    · simp only [sp0, List.getElem?_cons_zero, List.getElem?_cons_succ, Option.some.injEq] at hw; subst hw; cases hkd
    · simp only [sp0, List.getElem?_cons_zero, List.getElem?_cons_succ, Option.some.injEq] at hw
      subst hw
      have a1 : cnd.T v = true := ht _ List.mem_cons_self
      have a2 : (may.T v && plant.T v) = false := ht _ (List.mem_cons_of_mem _ List.mem_cons_self)
      rw [hc, decide_eq_true_iff] at a1
      have hk : v.i 103 = 12 := by rw [h.k, if_neg (by omega)]
      have hl : v.i 104 = g := by rw [h.l, if_neg (by omega)]
      have m1 : may.T v = true := by show Sx.phiB2 0 (v.i 103) (v.i 104) = true; rw [hk, hl]; exact mayP g a1.2
      have m2 : plant.T v = true := by show (v.i 103 == 12) = true; rw [hk]; rfl
      rw [m1, m2] at a2; cases a2
    · simp only [sp0, List.getElem?_cons_zero, List.getElem?_cons_succ, Option.some.injEq] at hw; subst hw; cases hkd
    · simp [sp0] at hw
  out := fun i w hw hkd ρ v hb _ hs ⟨j, g, h⟩ ht => by
    have hn : v.i 1 = ρ.i 1 := Sx.same_i hs (by decide)
    have h1 := (hb.1 1 _ _ rfl).1
    have hc := cndT hn h1 h
    rcases i with _ | _ | _ | _ | i
    · simp only [sp0, List.getElem?_cons_zero, Option.some.injEq] at hw; subst hw; cases hkd
    · simp only [sp0, List.getElem?_cons_zero, List.getElem?_cons_succ, Option.some.injEq] at hw; subst hw; cases hkd
    · simp only [sp0, List.getElem?_cons_zero, List.getElem?_cons_succ, Option.some.injEq] at hw; subst hw; cases hkd
    · simp only [sp0, List.getElem?_cons_zero, List.getElem?_cons_succ, Option.some.injEq] at hw
      subst hw
      have a1 : cnd.T v = false := ht _ List.mem_cons_self
      rw [hc, decide_eq_false_iff_not] at a1
      have he : j = endI (ρ.a 0) (ρ.i 1).toNat := Sx.lead_uniq h.le h.all (fun hlt => by rw [decide_eq_false_iff_not, ← h.eq]; exact fun hg => a1 ⟨hlt, hg⟩)
      have p26 : ρ.i 26 = (j : Nat) := by rw [he]; exact hb.2.2.1
      have p27 : ρ.i 27 = (g : Nat) := by rw [h.eq, he]; exact hb.2.2.2.1
      have p28 : ρ.i 28 = drawAt (ρ.a 0) (ρ.i 25) j := by rw [he]; exact hb.2.2.2.2
      have c4 : (ρ.i 27 == 4) = decide (g = 4) := by rw [p27, Bool.eq_iff_iff, beq_iff_eq, decide_eq_true_iff]; omega
      refine ⟨by simp only [sp0, Sx.selIx, Sx.E.T, if_true], ⟨fun q hq => ?_, fun q hq => absurd hq (by simp), fun q hq => absurd hq (by simp)⟩⟩
      simp only [List.mem_cons, List.not_mem_nil, or_false] at hq
      rcases hq with rfl | rfl | rfl | rfl | rfl
      · show v.i 100 = ρ.i 26; rw [h.ei, p26]
      · show v.i 101 = ρ.i 27; rw [h.eg, p27]
      · show v.i 102 = ρ.i 28; rw [h.d, p28]
      · show v.i 103 = if (ρ.i 27 == 4) = true then (7 : Int) else 12
        rw [c4, h.k]; by_cases h4 : g = 4
        · rw [if_pos h4, if_pos (by simp [h4])]
        · rw [if_neg h4, if_neg (by simp [h4])]
      · show v.i 104 = if (ρ.i 27 == 4) = true then (0 : Int) else ρ.i 27
        rw [c4, h.l, p27]; by_cases h4 : g = 4
        · rw [if_pos h4, if_pos (by simp [h4])]
        · rw [if_neg h4, if_neg (by simp [h4])]
    · simp [sp0] at hw
  fin := fun ρ hb _ => by
    simp only [sp0, Sx.FactsOk, Sx.E.T, if_true]
    exact holds_nil }⟩

/-! ### The run -/
noncomputable def loops1 : List (Nat × Code) := [(0, Sx.loopAt Try.f10 0)]
noncomputable def tab1 : Sx.Tab := [(0, (Sx.loopAt Try.f10 0, [{ sp := sp0 }]))]
noncomputable def E1 : Env := { bs := bsG, sum := Sx.tabC (Kc.sT bsG), fns := [(10, Sx.Func.marked Try.f10 [(0, 0)]), (18, Try.f18), (21, Try.f21), (28, Try.f28)], loops := Sx.runTab bsG tab1, lk := Sx.lkOf loops1 }
theorem e1Ok : E1.Ok Try.prog :=
  Sx.env_ok (Sx.forall_cons (Sx.fnOk_marked Try.func10 (by kernel_rfl) (by kernel_rfl) (Sx.forall_cons rfl Sx.forall_nil))
    (Sx.forall_cons (Sx.fnOk_plain Try.func18 (by kernel_rfl) (by kernel_rfl)) (Sx.forall_cons (Sx.fnOk_plain Try.func21 (by kernel_rfl) (by kernel_rfl)) (Sx.forall_cons (Sx.fnOk_plain Try.func28 (by kernel_rfl) (by kernel_rfl)) Sx.forall_nil))))
    (Sx.loopsOk_mem (l := loops1) (tab := tab1) rfl rfl (Sx.forall_cons (Sx.mk_eq (by kernel_rfl) rfl) Sx.forall_nil) (Sx.forall_cons (Sx.forall_cons good0 Sx.forall_nil) Sx.forall_nil))
theorem rowWalk {zs : List Int} (hz : Sx.Fit nearK zs) (w : World) (g off len cap : Nat) (A : Nat → Int) (h0 : 0 < len) (hc : len ≤ cap) (hl : len ≤ 70368744177663) (hA : ∀ n, ∃ k ∈ ([.u64] : List IntKind), k.min ≤ A n ∧ A n ≤ k.max) (hr : Sx.RowIn w g off [.u64] (len * 1) A) :
    Calls Try.prog 10 #[.agg (Sx.intsOf nearK zs).toArray, .slice (some ⟨g, off, none⟩) len cap] w fun e w' => e = .returned (.bool true) ∧ Below w.heap.size w w' := by
  refine Sx.law_start (Γ := Sx.Γ1 (pro zs A off len cap) g) (L := Sx.L1) (S := Sx.rowS [.u64] (.var 1)) (fs := Sx.factsOf base) (args := [nearM, .c Sx.rowM1]) (vs := [.agg (Sx.intsOf nearK zs).toArray, .slice (some ⟨g, off, none⟩) len cap]) (Sx.fast_sound (E := E1) Try.checked.mixed e1Ok (Sx.tabC_sound (Kc.sT_ok _)) (Sx.tabC_sure (Kc.sT_ok _)) 3000) (Sx.fast_sure e1Ok (Sx.tabC_sure (Kc.sT_ok _)) 3000)
    (.cons ⟨nearRel hz rfl, Sx.row_on nearK 2⟩ (.cons ⟨?_, ?_⟩ .nil)) (Sx.row_rel (m := len * 1) hr rfl (by show ((len : Nat) : Int) = _; rw [Nat.mul_one])) (fun j hj => by rw [show j = 0 from hj]; show (0 : Nat) < 1; omega) (holdG hz _ _ _ _ hl (u64s hA)) (Sx.factsOf_hold (base_ok h0 hc)) (by kernel_rfl)
  · rfl
  · show Sx.L1 0; rfl
theorem walk {v0 v1 : Value} {w : World} (h0 : Sx.AS.fits (.agg nearK) v0) (h : SlIn w [.u64] v1) : Calls Try.prog 10 #[v0, v1] w fun e w' => e = .returned (.bool true) ∧ Below w.heap.size w w' := by
  obtain ⟨zs, hz, rfl⟩ := h0
  cases h with
  | nil => exact nilWalk hz w
  | empty g off cap => exact emptyWalk hz w g off cap
  | row g off len cap A h0 hc hl hA hr => exact rowWalk hz w g off len cap A h0 hc hl hA hr

set_option maxRecDepth 100000 in
theorem lifted (os : Os) (started : os.Started) (H : Type) (enc : TypeId × Value → H) :
    ReturnsInHanded {} Try.checked os 10 .any (Rows.burnGrowsSpec.pre6 enc Try.prog Try.f10 Rows.burnGrowsRow.domain false) (Rows.burnGrowsSpec.post enc Try.prog Try.f10 false true false false) := by
  refine returnsInHanded_of_change_sized (C := Try.checked) own started (by kernel_rfl) Try.func10
    (ChangeSpec.witness6 (enc := enc) (C := Try.checked) false ⟨#[], #[.agg #[.int .u8 0, .int .u8 0, .int .u8 0, .int .u8 0, .int .u8 0, .int .u8 0, .int .u8 0, .int .u8 0, .int .u8 0, .int .u8 0, .int .u8 0, .int .u8 0, .int .u8 0, .int .u8 0, .int .u8 0, .int .u8 0, .int .u8 0, .int .u8 0, .int .u8 0, .int .u8 0, .int .u8 0, .int .u8 0, .int .u8 0, .int .u64 0], .slice none 0 0], []⟩ 8 (by kernel_rfl) (by kernel_rfl) (by kernel_rfl) (by kernel_rfl)) ?_
  intro W base args ds gs before hval0 hW _ hsz0 _
  have hsz : (DataW.weightsEach Try.prog (Try.f10.params.toList ++ Rows.burnGrowsSpec.plain.varTypes Try.prog) (ds ++ gs)).all (· ≤ reachBytes) = true := hsz0
  have hval : ∀ (j : Nat) t v, Try.f10.params[j]? = some t → args[j]? = some v → Value.okWide Try.prog W .any base t v := hval0
  have hW' := hW
  obtain ⟨p, q, hA0, hV, rfl, hfz, hnd⟩ := hW
  have hA : DataW.TrodAll enc Try.prog W 0 (fun _ => true) true Try.f10.params.toList args.toList ds p := hA0
  rw [Try.params10] at hA hval hsz
  obtain ⟨v0, vs0, d0, ds0, p0, q0, hargs, rfl, rfl, h0, r0⟩ := trodAll_cons hA
  obtain ⟨v1, vs1, d1, ds1, p1, q1, rfl, rfl, rfl, h1, r1⟩ := trodAll_cons r0
  obtain ⟨rfl, rfl, rfl⟩ := trodAll_nil r1
  obtain rfl : args = #[v0, v1] := by cases args; simp_all
  obtain ⟨rfl, rfl⟩ := trodVars_none hV
  have lt0 : ∀ x ∈ p0, x.block < W.heap.size := by obtain ⟨m, hm⟩ := h0; exact DataW.trod_lt m _ _ _ hm
  have lt1 : ∀ x ∈ p1, x.block < W.heap.size := by obtain ⟨m, hm⟩ := h1; exact DataW.trod_lt m _ _ _ hm
  have hfit : Sx.AS.fits (.agg nearK) v0 := Sx.AS.fits_of (by kernel_rfl) (hval 0 _ v0 rfl rfl)
  have hsl : SlIn W [.u64] v1 := Sx.slIn_of (d := 8) Try.underlying44 (by kernel_rfl) (by kernel_rfl) (by decide) (hval 1 _ v1 rfl rfl) h1 (fun el sp hd => by
    subst hd
    have := sized_slice hsz (j := 1) (t := 44) (e := 26) rfl rfl Try.underlying44
    rw [bytesEl] at this
    simp only [reachBytes] at this
    omega)
  clear hA0 hval0 hsz0
  refine (walk hfit hsl).mono fun e W' ⟨he, bel⟩ => ?_
  subst he
  exact ⟨_, rfl, _, _, _, [], _, [], hW', trodAll_mk1 (shut_bool Try.underlying4 _), (trodAll_cons_mk (Below.trod laidOut (by kernel_rfl) (of_decide_eq_true (by kernel_rfl)) h0 bel lt0) (trodAll_cons_mk (Below.trod laidOut (by kernel_rfl) (of_decide_eq_true (by kernel_rfl)) h1 bel lt1) trodAll_mk0)), rfl, bel.frame _, fun h => by cases h⟩

theorem over : Rows.burnGrowsRow.holds Try.pinned (OpenSpec.ofChange Rows.burnGrowsSpec) :=
  OpenClaim.holds_of_wide 10 Try.f10 rfl rfl rfl rfl rfl rfl rfl ⟨rfl, rfl, rfl, rfl, rfl⟩ rfl rfl rfl rfl rfl (by kernel_rfl) Try.func10 (by kernel_rfl)
    (of_decide_eq_true (by kernel_rfl)) (by unfold Func.isWrapper; first | (rw [if_pos (by decide +kernel)]; kernel_rfl) | (rw [if_neg (by decide +kernel)]; exact ⟨rfl, rfl⟩))
    (fun os started H enc _ => lifted os started H enc)

/-- THE STATEMENT. -/
theorem proved : Rows.BurnGrowsSaid := over
#print axioms proved
end Go.Proofs.Ythicccjkjmkocaa.burnGrows
