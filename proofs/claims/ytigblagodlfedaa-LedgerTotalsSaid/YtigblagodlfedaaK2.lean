/- Glow: the walk of a law. -/
import Derived.RangeFuncNested
import Derived.RangeFuncBound
import Derived.RangeFuncCalls
import Derived.RangeFuncLeaves
import Derived.Shelf.Abstract
import Derived.Shelf.RegionOpen
import Derived.WalkKit
import Derived.OwnWalkIn
import Derived.TacticsInMore
import Derived.LoopNIn
import Derived.LoopIn
import Derived.Lib.Hide
import Derived.IntWalk
import Derived.Maps.AppendAt
import Derived.Test.YtigblagodlfedaaHand
import Derived.Test.YtigblagodlfedaaK1
set_option linter.unusedVariables false
set_option linter.unusedSimpArgs false
namespace Go.Proofs.Ytigblagodlfedaa
open Go.RowKit Go.Shelf
attribute [local go_sem] Oper.semAt_some

noncomputable def C30 : Code := Try.f30.body.getD .skip
set_option maxRecDepth 100000 in
set_option maxHeartbeats 4000000 in
theorem mv0p (n : Nat) (W : World) (r : Nat) (Q : Exit → Act → World → Prop) (a : Act) (h0 : SR [(0, .pointer (some ⟨r, 0, none⟩))] 21 [] W a W)
    (hQ : ∀ a, SR [(0, .pointer (some ⟨r, 0, none⟩)), (2, .int .i64 0)] 21 [] (W) a (W) → Q .normal a (W)) : (regOf 0 C30).wpIn Fence.wide n Try.prog Q a W := by
  simp only [regOf, C30, Try.f30, Option.getD, Nat.reduceBEq, Bool.false_eq_true, if_true, if_false]
  refine region_sq (fun k_ a w => match k_ with | 0 => SR [(0, .pointer (some ⟨r, 0, none⟩))] 21 [] (W) a w | _ => SR [(0, .pointer (some ⟨r, 0, none⟩)), (2, .int .i64 0)] 21 [] (W) a w) (show SR _ _ _ _ a W from h0) ⟨?_, trivial⟩ ?_
  · intro a w hI
    have hI : SR _ _ _ _ a w := hI
    have hw : w = W := hI.wp
    subst hw
    go_simp
    exact hI.put (d := 2) (by decide) (by simp)
  · intro a w hI
    have hI : SR _ _ _ _ a w := hI
    have hw : w = W := hI.wp
    subst hw
    exact hQ a hI
set_option maxRecDepth 100000 in
set_option maxHeartbeats 4000000 in
theorem mv1p (n : Nat) (W : World) (r : Nat) (Q : Exit → Act → World → Prop) (a : Act) (h0 : SR [(0, .pointer (some ⟨r, 0, none⟩)), (2, .int .i64 0)] 21 [] W a W)
    (hQ : ∀ a, SR [(0, .pointer (some ⟨r, 0, none⟩)), (2, .int .i64 0), (5, .bool false)] 21 [] (W) a (W) → Q .normal a (W)) : (regOf 1 C30).wpIn Fence.wide n Try.prog Q a W := by
  simp only [regOf, C30, Try.f30, Option.getD, Nat.reduceBEq, Bool.false_eq_true, if_true, if_false]
  refine region_sq (fun k_ a w => match k_ with | 0 => SR [(0, .pointer (some ⟨r, 0, none⟩)), (2, .int .i64 0)] 21 [] (W) a w | 1 => SR [(0, .pointer (some ⟨r, 0, none⟩)), (2, .int .i64 0), (4, .pointer (some ⟨r, 0, none⟩))] 21 [] (W) a w | _ => SR [(0, .pointer (some ⟨r, 0, none⟩)), (2, .int .i64 0), (5, .bool false)] 21 [] (W) a w) (show SR _ _ _ _ a W from h0) ⟨?_, ?_, trivial⟩ ?_
  · intro a w hI
    have hI : SR _ _ _ _ a w := hI
    have e0 := hI.g 0 rfl
    have hw : w = W := hI.wp
    subst hw
    go_simp
    exact hI.put (d := 4) (by decide) (by simp)
  · intro a w hI
    have hI : SR _ _ _ _ a w := hI
    have e4 := hI.g 4 rfl
    have hw : w = W := hI.wp
    subst hw
    go_simp
    exact hI.put (d := 5) (by decide) (by simp)
  · intro a w hI
    have hI : SR _ _ _ _ a w := hI
    have hw : w = W := hI.wp
    subst hw
    exact hQ a hI
set_option maxRecDepth 100000 in
set_option maxHeartbeats 4000000 in
theorem mv0n (n : Nat) (W : World)  (Q : Exit → Act → World → Prop) (a : Act) (h0 : SR [(0, .pointer none)] 21 [] W a W)
    (hQ : ∀ a, SR [(0, .pointer none), (2, .int .i64 0)] 21 [] (W) a (W) → Q .normal a (W)) : (regOf 0 C30).wpIn Fence.wide n Try.prog Q a W := by
  simp only [regOf, C30, Try.f30, Option.getD, Nat.reduceBEq, Bool.false_eq_true, if_true, if_false]
  refine region_sq (fun k_ a w => match k_ with | 0 => SR [(0, .pointer none)] 21 [] (W) a w | _ => SR [(0, .pointer none), (2, .int .i64 0)] 21 [] (W) a w) (show SR _ _ _ _ a W from h0) ⟨?_, trivial⟩ ?_
  · intro a w hI
    have hI : SR _ _ _ _ a w := hI
    have hw : w = W := hI.wp
    subst hw
    go_simp
    exact hI.put (d := 2) (by decide) (by simp)
  · intro a w hI
    have hI : SR _ _ _ _ a w := hI
    have hw : w = W := hI.wp
    subst hw
    exact hQ a hI
set_option maxRecDepth 100000 in
set_option maxHeartbeats 4000000 in
theorem mv1n (n : Nat) (W : World)  (Q : Exit → Act → World → Prop) (a : Act) (h0 : SR [(0, .pointer none), (2, .int .i64 0)] 21 [] W a W)
    (hQ : ∀ a, SR [(0, .pointer none), (2, .int .i64 0), (5, .bool true)] 21 [] (W) a (W) → Q .normal a (W)) : (regOf 1 C30).wpIn Fence.wide n Try.prog Q a W := by
  simp only [regOf, C30, Try.f30, Option.getD, Nat.reduceBEq, Bool.false_eq_true, if_true, if_false]
  refine region_sq (fun k_ a w => match k_ with | 0 => SR [(0, .pointer none), (2, .int .i64 0)] 21 [] (W) a w | 1 => SR [(0, .pointer none), (2, .int .i64 0), (4, .pointer none)] 21 [] (W) a w | _ => SR [(0, .pointer none), (2, .int .i64 0), (5, .bool true)] 21 [] (W) a w) (show SR _ _ _ _ a W from h0) ⟨?_, ?_, trivial⟩ ?_
  · intro a w hI
    have hI : SR _ _ _ _ a w := hI
    have e0 := hI.g 0 rfl
    have hw : w = W := hI.wp
    subst hw
    go_simp
    exact hI.put (d := 4) (by decide) (by simp)
  · intro a w hI
    have hI : SR _ _ _ _ a w := hI
    have e4 := hI.g 4 rfl
    have hw : w = W := hI.wp
    subst hw
    go_simp
    exact hI.put (d := 5) (by decide) (by simp)
  · intro a w hI
    have hI : SR _ _ _ _ a w := hI
    have hw : w = W := hI.wp
    subst hw
    exact hQ a hI
set_option maxRecDepth 100000 in
set_option maxHeartbeats 4000000 in
theorem mv2 (n : Nat) (W : World)  (Q : Exit → Act → World → Prop) (a : Act) (h0 : SR [] 21 [] W a W)
    (hQ : ∀ a, SR [(2, .int .i64 0)] 21 [] (W) a (W) → Q .normal a (W)) : (regOf 2 C30).wpIn Fence.wide n Try.prog Q a W := by
  simp only [regOf, C30, Try.f30, Option.getD, Nat.reduceBEq, Bool.false_eq_true, if_true, if_false]
  refine region_sq (fun k_ a w => match k_ with | 0 => SR [] 21 [] (W) a w | _ => SR [(2, .int .i64 0)] 21 [] (W) a w) (show SR _ _ _ _ a W from h0) ⟨?_, trivial⟩ ?_
  · intro a w hI
    have hI : SR _ _ _ _ a w := hI
    have hw : w = W := hI.wp
    subst hw
    go_simp
    exact hI.put (d := 2) (by decide) (by simp)
  · intro a w hI
    have hI : SR _ _ _ _ a w := hI
    have hw : w = W := hI.wp
    subst hw
    exact hQ a hI
set_option maxRecDepth 100000 in
set_option maxHeartbeats 4000000 in
theorem mv3 (n : Nat) (W : World) (r c : Nat) (Q : Exit → Act → World → Prop) (a : Act) (h0 : SR [(0, .pointer (some ⟨r, 0, none⟩)), (2, .int .i64 c)] 21 [] W a W)
    (hQ : ∀ a, SR [(0, .pointer (some ⟨r, 0, none⟩)), (2, .int .i64 c), (6, .int .i64 0)] 21 [] (W) a (W) → Q .normal a (W)) : (regOf 3 C30).wpIn Fence.wide n Try.prog Q a W := by
  simp only [regOf, C30, Try.f30, Option.getD, Nat.reduceBEq, Bool.false_eq_true, if_true, if_false]
  refine region_sq (fun k_ a w => match k_ with | 0 => SR [(0, .pointer (some ⟨r, 0, none⟩)), (2, .int .i64 c)] 21 [] (W) a w | _ => SR [(0, .pointer (some ⟨r, 0, none⟩)), (2, .int .i64 c), (6, .int .i64 0)] 21 [] (W) a w) (show SR _ _ _ _ a W from h0) ⟨?_, trivial⟩ ?_
  · intro a w hI
    have hI : SR _ _ _ _ a w := hI
    have hw : w = W := hI.wp
    subst hw
    go_simp
    exact hI.put (d := 6) (by decide) (by simp)
  · intro a w hI
    have hI : SR _ _ _ _ a w := hI
    have hw : w = W := hI.wp
    subst hw
    exact hQ a hI
set_option maxRecDepth 100000 in
set_option maxHeartbeats 4000000 in
theorem mv4 (n : Nat) (W : World) (r c i : Nat)  (Q : Exit → Act → World → Prop) (a : Act) (h0 : SR [(0, .pointer (some ⟨r, 0, none⟩)), (2, .int .i64 c), (6, .int .i64 i)] 21 [] W a W)
    (hQ : ∀ a, SR [(0, .pointer (some ⟨r, 0, none⟩)), (2, .int .i64 c), (6, .int .i64 i), (7, .bool (decide ((i : Int) < 4096)))] 21 [] (W) a (W) → Q .normal a (W)) : (regOf 4 C30).wpIn Fence.wide n Try.prog Q a W := by
  simp only [regOf, C30, Try.f30, Option.getD, Nat.reduceBEq, Bool.false_eq_true, if_true, if_false]
  refine region_sq (fun k_ a w => match k_ with | 0 => SR [(0, .pointer (some ⟨r, 0, none⟩)), (2, .int .i64 c), (6, .int .i64 i)] 21 [] (W) a w | _ => SR [(0, .pointer (some ⟨r, 0, none⟩)), (2, .int .i64 c), (6, .int .i64 i), (7, .bool (decide ((i : Int) < 4096)))] 21 [] (W) a w) (show SR _ _ _ _ a W from h0) ⟨?_, trivial⟩ ?_
  · intro a w hI
    have hI : SR _ _ _ _ a w := hI
    have e6 := hI.g 6 rfl
    have hw : w = W := hI.wp
    subst hw
    go_simp
    exact hI.put (d := 7) (by decide) (by simp)
  · intro a w hI
    have hI : SR _ _ _ _ a w := hI
    have hw : w = W := hI.wp
    subst hw
    exact hQ a hI
set_option maxRecDepth 100000 in
set_option maxHeartbeats 4000000 in
theorem mv5 (n : Nat) (W : World) (r c i : Nat)  (Q : Exit → Act → World → Prop) (a : Act) (h0 : SR [(0, .pointer (some ⟨r, 0, none⟩)), (2, .int .i64 c), (6, .int .i64 i)] 21 [] W a W)
    (hQ : ∀ a, SR [(0, .pointer (some ⟨r, 0, none⟩)), (2, .int .i64 c), (6, .int .i64 i), (3, .int .i64 i)] 21 [] (W) a (W) → Q .normal a (W)) : (regOf 5 C30).wpIn Fence.wide n Try.prog Q a W := by
  simp only [regOf, C30, Try.f30, Option.getD, Nat.reduceBEq, Bool.false_eq_true, if_true, if_false]
  refine region_sq (fun k_ a w => match k_ with | 0 => SR [(0, .pointer (some ⟨r, 0, none⟩)), (2, .int .i64 c), (6, .int .i64 i)] 21 [] (W) a w | 1 => SR [(0, .pointer (some ⟨r, 0, none⟩)), (2, .int .i64 c), (6, .int .i64 i), (8, .int .i64 i)] 21 [] (W) a w | _ => SR [(0, .pointer (some ⟨r, 0, none⟩)), (2, .int .i64 c), (6, .int .i64 i), (3, .int .i64 i)] 21 [] (W) a w) (show SR _ _ _ _ a W from h0) ⟨?_, ?_, trivial⟩ ?_
  · intro a w hI
    have hI : SR _ _ _ _ a w := hI
    have e6 := hI.g 6 rfl
    have hw : w = W := hI.wp
    subst hw
    go_simp
    exact hI.put (d := 8) (by decide) (by simp)
  · intro a w hI
    have hI : SR _ _ _ _ a w := hI
    have e8 := hI.g 8 rfl
    have hw : w = W := hI.wp
    subst hw
    go_simp
    exact hI.put (d := 3) (by decide) (by simp)
  · intro a w hI
    have hI : SR _ _ _ _ a w := hI
    have hw : w = W := hI.wp
    subst hw
    exact hQ a hI
set_option maxRecDepth 100000 in
set_option maxHeartbeats 4000000 in
theorem mv6 (n : Nat) {G : World → Prop} (hS : Stable G) (r c i : Nat) (k : Int) (mb : Bool) (hi : i < 4096) (ca : ∀ w, G w → w.cell? ⟨r, i * 2, none⟩ = some (.int .u8 k)) (hc : ∀ m w, G w → CallsIn Fence.wide m Try.prog 15 #[.int .u8 k] w fun e w' => e = .returned (.bool mb) ∧ Below w.heap.size w w') (Q : Exit → Act → World → Prop) (a : Act) (w : World) (h0 : SG [(0, .pointer (some ⟨r, 0, none⟩)), (2, .int .i64 c), (6, .int .i64 i), (3, .int .i64 i)] 21 G a w)
    (hQ : ∀ a w, SG [(0, .pointer (some ⟨r, 0, none⟩)), (2, .int .i64 c), (6, .int .i64 i), (16, .bool mb)] 21 G a w → Q .normal a w) : (regOf 6 C30).wpIn Fence.wide n Try.prog Q a w := by
  simp only [regOf, C30, Try.f30, Option.getD, Nat.reduceBEq, Bool.false_eq_true, if_true, if_false]
  refine region_sq (fun k_ a w => match k_ with | 0 => SG [(0, .pointer (some ⟨r, 0, none⟩)), (2, .int .i64 c), (6, .int .i64 i), (3, .int .i64 i)] 21 G a w | 1 => SG [(0, .pointer (some ⟨r, 0, none⟩)), (2, .int .i64 c), (6, .int .i64 i), (3, .int .i64 i), (9, .pointer (some ⟨r, 0, none⟩))] 21 G a w | 2 => SG [(0, .pointer (some ⟨r, 0, none⟩)), (2, .int .i64 c), (6, .int .i64 i), (9, .pointer (some ⟨r, 0, none⟩)), (10, .int .i64 i)] 21 G a w | 3 => SG [(0, .pointer (some ⟨r, 0, none⟩)), (2, .int .i64 c), (6, .int .i64 i), (10, .int .i64 i), (11, .pointer (some ⟨r, 0, none⟩))] 21 G a w | 4 => SG [(0, .pointer (some ⟨r, 0, none⟩)), (2, .int .i64 c), (6, .int .i64 i), (10, .int .i64 i), (12, .pointer (some ⟨r, 0, none⟩))] 21 G a w | 5 => SG [(0, .pointer (some ⟨r, 0, none⟩)), (2, .int .i64 c), (6, .int .i64 i), (13, .pointer (some ⟨r, i * 2, none⟩))] 21 G a w | 6 => SG [(0, .pointer (some ⟨r, 0, none⟩)), (2, .int .i64 c), (6, .int .i64 i), (14, .pointer (some ⟨r, i * 2, none⟩))] 21 G a w | 7 => SG [(0, .pointer (some ⟨r, 0, none⟩)), (2, .int .i64 c), (6, .int .i64 i), (15, .int .u8 k)] 21 G a w | _ => SG [(0, .pointer (some ⟨r, 0, none⟩)), (2, .int .i64 c), (6, .int .i64 i), (16, .bool mb)] 21 G a w) (show SG _ _ G a w from h0) ⟨?_, ?_, ?_, ?_, ?_, ?_, ?_, ?_, trivial⟩ ?_
  · intro a w hI
    have hI : SG _ _ G a w := hI
    have e0 := hI.g 0 rfl
    go_simp
    exact hI.put (d := 9) (by decide) (by simp) hI.wp
  · intro a w hI
    have hI : SG _ _ G a w := hI
    have e3 := hI.g 3 rfl
    go_simp
    exact hI.put (d := 10) (by decide) (by simp) hI.wp
  · intro a w hI
    have hI : SG _ _ G a w := hI
    have e9 := hI.g 9 rfl
    go_simp
    exact hI.put (d := 11) (by decide) (by simp) hI.wp
  · intro a w hI
    have hI : SG _ _ G a w := hI
    have e11 := hI.g 11 rfl
    go_simp
    exact hI.put (d := 12) (by decide) (by simp) hI.wp
  · intro a w hI
    have hI : SG _ _ G a w := hI
    have e12 := hI.g 12 rfl
    have e10 := hI.g 10 rfl
    have q1_4 : (0 : Int) ≤ i := by omega
    have q2_4 : (i : Int) < 4096 := by omega
    go_simp
    exact hI.put (d := 13) (by decide) (by simp) hI.wp
  · intro a w hI
    have hI : SG _ _ G a w := hI
    have e13 := hI.g 13 rfl
    go_simp
    exact hI.put (d := 14) (by decide) (by simp) hI.wp
  · intro a w hI
    have hI : SG _ _ G a w := hI
    have e14 := hI.g 14 rfl
    have cc0 := ca w hI.wp
    go_simp
    exact hI.put (d := 15) (by decide) (by simp) hI.wp
  · intro a w hI
    have hI : SG _ _ G a w := hI
    have e15 := hI.g 15 rfl
    go_simp
    refine ⟨trivial, fun h => (by cases h), (hc (n - 1) w hI.wp).mono ?_⟩
    rintro e w' ⟨rfl, hb2⟩
    exact hI.put (d := 16) (by decide) (by simp) (hS _ _ hI.wp hb2)
  · intro a w hI
    have hI : SG _ _ G a w := hI
    exact hQ a w hI
set_option maxRecDepth 100000 in
set_option maxHeartbeats 4000000 in
theorem mv7 (n : Nat) (W : World) (r c i : Nat) (hc : c < 4096) (Q : Exit → Act → World → Prop) (a : Act) (h0 : SR [(0, .pointer (some ⟨r, 0, none⟩)), (2, .int .i64 c), (6, .int .i64 i)] 21 [] W a W)
    (hQ : ∀ a, SR [(0, .pointer (some ⟨r, 0, none⟩)), (2, .int .i64 ((c : Int) + 1)), (6, .int .i64 i)] 21 [] (W) a (W) → Q .normal a (W)) : (regOf 7 C30).wpIn Fence.wide n Try.prog Q a W := by
  simp only [regOf, C30, Try.f30, Option.getD, Nat.reduceBEq, Bool.false_eq_true, if_true, if_false]
  refine region_sq (fun k_ a w => match k_ with | 0 => SR [(0, .pointer (some ⟨r, 0, none⟩)), (2, .int .i64 c), (6, .int .i64 i)] 21 [] (W) a w | 1 => SR [(0, .pointer (some ⟨r, 0, none⟩)), (6, .int .i64 i), (17, .int .i64 c)] 21 [] (W) a w | 2 => SR [(0, .pointer (some ⟨r, 0, none⟩)), (6, .int .i64 i), (18, .int .i64 ((c : Int) + 1))] 21 [] (W) a w | _ => SR [(0, .pointer (some ⟨r, 0, none⟩)), (6, .int .i64 i), (2, .int .i64 ((c : Int) + 1))] 21 [] (W) a w) (show SR _ _ _ _ a W from h0) ⟨?_, ?_, ?_, trivial⟩ ?_
  · intro a w hI
    have hI : SR _ _ _ _ a w := hI
    have e2 := hI.g 2 rfl
    have hw : w = W := hI.wp
    subst hw
    go_simp
    exact hI.put (d := 17) (by decide) (by simp)
  · intro a w hI
    have hI : SR _ _ _ _ a w := hI
    have e17 := hI.g 17 rfl
    have hw : w = W := hI.wp
    subst hw
    have hw1 : IntKind.i64.wrap ((c : Int) + 1) = (c : Int) + 1 := IntWalk.i64_in _ (by omega)
    go_simp
    exact hI.put (d := 18) (by decide) (by simp)
  · intro a w hI
    have hI : SR _ _ _ _ a w := hI
    have e18 := hI.g 18 rfl
    have hw : w = W := hI.wp
    subst hw
    go_simp
    exact hI.put (d := 2) (by decide) (by simp)
  · intro a w hI
    have hI : SR _ _ _ _ a w := hI
    have hw : w = W := hI.wp
    subst hw
    exact hQ a (hI.sub (by intro p hp; simp only [List.mem_cons, List.not_mem_nil, or_false] at hp ⊢; rcases hp with h | h | h <;> simp [h]))
set_option maxRecDepth 100000 in
set_option maxHeartbeats 4000000 in
theorem mv8 (n : Nat) (W : World) (r c i : Nat) (hi : i < 4096) (Q : Exit → Act → World → Prop) (a : Act) (h0 : SR [(0, .pointer (some ⟨r, 0, none⟩)), (2, .int .i64 c), (6, .int .i64 i)] 21 [] W a W)
    (hQ : ∀ a, SR [(0, .pointer (some ⟨r, 0, none⟩)), (2, .int .i64 c), (6, .int .i64 ((i : Int) + 1))] 21 [] (W) a (W) → Q .normal a (W)) : (regOf 8 C30).wpIn Fence.wide n Try.prog Q a W := by
  simp only [regOf, C30, Try.f30, Option.getD, Nat.reduceBEq, Bool.false_eq_true, if_true, if_false]
  refine region_sq (fun k_ a w => match k_ with | 0 => SR [(0, .pointer (some ⟨r, 0, none⟩)), (2, .int .i64 c), (6, .int .i64 i)] 21 [] (W) a w | 1 => SR [(0, .pointer (some ⟨r, 0, none⟩)), (2, .int .i64 c), (19, .int .i64 ((i : Int) + 1))] 21 [] (W) a w | _ => SR [(0, .pointer (some ⟨r, 0, none⟩)), (2, .int .i64 c), (6, .int .i64 ((i : Int) + 1))] 21 [] (W) a w) (show SR _ _ _ _ a W from h0) ⟨?_, ?_, trivial⟩ ?_
  · intro a w hI
    have hI : SR _ _ _ _ a w := hI
    have e6 := hI.g 6 rfl
    have hw : w = W := hI.wp
    subst hw
    have hw0 : IntKind.i64.wrap ((i : Int) + 1) = (i : Int) + 1 := IntWalk.i64_in _ (by omega)
    go_simp
    exact hI.put (d := 19) (by decide) (by simp)
  · intro a w hI
    have hI : SR _ _ _ _ a w := hI
    have e19 := hI.g 19 rfl
    have hw : w = W := hI.wp
    subst hw
    go_simp
    exact hI.put (d := 6) (by decide) (by simp)
  · intro a w hI
    have hI : SR _ _ _ _ a w := hI
    have hw : w = W := hI.wp
    subst hw
    exact hQ a hI
set_option maxRecDepth 100000 in
set_option maxHeartbeats 4000000 in
theorem mv9 (n : Nat) (W : World) (c : Nat) (Q : Exit → Act → World → Prop) (a : Act) (h0 : SR [(2, .int .i64 c)] 21 [] W a W)
    (hQ : ∀ a, SR [(2, .int .i64 c)] 21 [] (W) a (W) → Q .normal a (W)) : (regOf 9 C30).wpIn Fence.wide n Try.prog Q a W := by
  simp only [regOf, C30, Try.f30, Option.getD, Nat.reduceBEq, Bool.false_eq_true, if_true, if_false]
  refine region_sq (fun k_ a w => match k_ with | 0 => SR [(2, .int .i64 c)] 21 [] (W) a w | 1 => SR [(20, .int .i64 c)] 21 [] (W) a w | _ => SR [(2, .int .i64 c)] 21 [] (W) a w) (show SR _ _ _ _ a W from h0) ⟨?_, ?_, trivial⟩ ?_
  · intro a w hI
    have hI : SR _ _ _ _ a w := hI
    have e2 := hI.g 2 rfl
    have hw : w = W := hI.wp
    subst hw
    go_simp
    exact hI.put (d := 20) (by decide) (by simp)
  · intro a w hI
    have hI : SR _ _ _ _ a w := hI
    have e20 := hI.g 20 rfl
    have hw : w = W := hI.wp
    subst hw
    go_simp
    exact hI.put (d := 2) (by decide) (by simp)
  · intro a w hI
    have hI : SR _ _ _ _ a w := hI
    have hw : w = W := hI.wp
    subst hw
    exact hQ a hI
noncomputable def C16 : Code := Try.f16.body.getD .skip
set_option maxRecDepth 100000 in
set_option maxHeartbeats 4000000 in
theorem lm0 (n : Nat) (W : World) (x y z : Int)  (Q : Exit → Act → World → Prop) (a : Act) (h0 : SR [(0, .agg #[.int .i64 x, .int .i64 y, .int .i64 z])] 14 [] W a W)
    (hQ : ∀ a, SR [(1, .pointer (some ⟨W.heap.size, 0, none⟩))] 14 [] (W.alloc (.cells #[.int .i64 x, .int .i64 y, .int .i64 z] 33)) a (W.alloc (.cells #[.int .i64 x, .int .i64 y, .int .i64 z] 33)) → Q .normal a (W.alloc (.cells #[.int .i64 x, .int .i64 y, .int .i64 z] 33))) : (regOf 0 C16).wpIn Fence.wide n Try.prog Q a W := by
  simp only [regOf, C16, Try.f16, Option.getD, Nat.reduceBEq, Bool.false_eq_true, if_true, if_false]
  refine region_sq (fun k_ a w => match k_ with | 0 => SR [(0, .agg #[.int .i64 x, .int .i64 y, .int .i64 z])] 14 [] (W) a w | 1 => SR [(1, .pointer (some ⟨W.heap.size, 0, none⟩))] 14 [] (W.alloc (.cells #[.int .i64 x, .int .i64 y, .int .i64 z] 33)) a w | _ => SR [(1, .pointer (some ⟨W.heap.size, 0, none⟩))] 14 [] (W.alloc (.cells #[.int .i64 x, .int .i64 y, .int .i64 z] 33)) a w) (show SR _ _ _ _ a W from h0) ⟨?_, ?_, trivial⟩ ?_
  · intro a w hI
    have hI : SR _ _ _ _ a w := hI
    have e0 := hI.g 0 rfl
    have hw : w = W := hI.wp
    subst hw
    go_simp
    exact hI.put (d := 1) (by decide) (by simp)
  · intro a w hI
    have hI : SR _ _ _ _ a w := hI
    obtain rfl := hI.wp
    go_simp
    exact hI.put (d := 2) (by decide) (by simp)
  · intro a w hI
    have hI : SR _ _ _ _ a w := hI
    obtain rfl := hI.wp
    exact hQ a hI
set_option maxRecDepth 100000 in
set_option maxHeartbeats 4000000 in
theorem lm1n (n : Nat) {G : World → Prop} (hS : Stable G) (bx : Nat) (x y z : Int)  (k0 : ∀ w, G w → w.cell? ⟨bx, 0, none⟩ = some (.int .i64 x)) (k1 : ∀ w, G w → w.cell? ⟨bx, 1, none⟩ = some (.int .i64 y)) (k2 : ∀ w, G w → w.cell? ⟨bx, 2, none⟩ = some (.int .i64 z)) (hc : ∀ m w, G w → CallsIn Fence.wide m Try.prog 24 #[.agg #[.int .i64 x, .int .i64 y, .int .i64 z]] w fun e w' => e = .returned (.tuple #[.pointer none, .bool false]) ∧ Below w.heap.size w w') (Q : Exit → Act → World → Prop) (a : Act) (w : World) (h0 : SG [(1, .pointer (some ⟨bx, 0, none⟩))] 14 G a w)
    (hQ : ∀ a w, SG [(3, .pointer none), (4, .bool false)] 14 G a w → Q .normal a w) : (regOf 1 C16).wpIn Fence.wide n Try.prog Q a w := by
  simp only [regOf, C16, Try.f16, Option.getD, Nat.reduceBEq, Bool.false_eq_true, if_true, if_false]
  refine region_sq (fun k_ a w => match k_ with | 0 => SG [(1, .pointer (some ⟨bx, 0, none⟩))] 14 G a w | 1 => SG [(6, .agg #[.int .i64 x, .int .i64 y, .int .i64 z])] 14 G a w | 2 => SG [(7, .tuple #[.pointer none, .bool false])] 14 G a w | 3 => SG [(5, .tuple #[.pointer none, .bool false])] 14 G a w | 4 => SG [(5, .tuple #[.pointer none, .bool false]), (8, .pointer none)] 14 G a w | 5 => SG [(8, .pointer none), (9, .bool false)] 14 G a w | 6 => SG [(9, .bool false), (3, .pointer none)] 14 G a w | _ => SG [(3, .pointer none), (4, .bool false)] 14 G a w) (show SG _ _ G a w from h0) ⟨?_, ?_, ?_, ?_, ?_, ?_, ?_, trivial⟩ ?_
  · intro a w hI
    have hI : SG _ _ G a w := hI
    have e1 := hI.g 1 rfl
    have cc0 := k0 w hI.wp
    have cc1 := k1 w hI.wp
    have cc2 := k2 w hI.wp
    go_simp
    exact hI.put (d := 6) (by decide) (by simp) hI.wp
  · intro a w hI
    have hI : SG _ _ G a w := hI
    have e6 := hI.g 6 rfl
    go_simp
    refine ⟨trivial, fun h => (by cases h), (hc (n - 1) w hI.wp).mono ?_⟩
    rintro e w' ⟨rfl, hb2⟩
    exact hI.put (d := 7) (by decide) (by simp) (hS _ _ hI.wp hb2)
  · intro a w hI
    have hI : SG _ _ G a w := hI
    have e7 := hI.g 7 rfl
    go_simp
    exact hI.put (d := 5) (by decide) (by simp) hI.wp
  · intro a w hI
    have hI : SG _ _ G a w := hI
    have e5 := hI.g 5 rfl
    go_simp
    exact hI.put (d := 8) (by decide) (by simp) hI.wp
  · intro a w hI
    have hI : SG _ _ G a w := hI
    have e5 := hI.g 5 rfl
    go_simp
    exact hI.put (d := 9) (by decide) (by simp) hI.wp
  · intro a w hI
    have hI : SG _ _ G a w := hI
    have e8 := hI.g 8 rfl
    go_simp
    exact hI.put (d := 3) (by decide) (by simp) hI.wp
  · intro a w hI
    have hI : SG _ _ G a w := hI
    have e9 := hI.g 9 rfl
    go_simp
    exact hI.put (d := 4) (by decide) (by simp) hI.wp
  · intro a w hI
    have hI : SG _ _ G a w := hI
    exact hQ a w hI
set_option maxRecDepth 100000 in
set_option maxHeartbeats 4000000 in
theorem lm1p (n : Nat) {G : World → Prop} (bx : Nat) (x y z : Int) (G1 : Nat → World → Prop) (k0 : ∀ w, G w → w.cell? ⟨bx, 0, none⟩ = some (.int .i64 x)) (k1 : ∀ w, G w → w.cell? ⟨bx, 1, none⟩ = some (.int .i64 y)) (k2 : ∀ w, G w → w.cell? ⟨bx, 2, none⟩ = some (.int .i64 z)) (hc : ∀ m w, G w → CallsIn Fence.wide m Try.prog 24 #[.agg #[.int .i64 x, .int .i64 y, .int .i64 z]] w fun e w' => ∃ (r : Nat), e = .returned (.tuple #[.pointer (some ⟨r, 0, none⟩), .bool true]) ∧ (G1 r) w') (Q : Exit → Act → World → Prop) (a : Act) (w : World) (h0 : SG [(1, .pointer (some ⟨bx, 0, none⟩))] 14 G a w)
    (hQ : ∀ (r : Nat) a w, SG [(3, .pointer (some ⟨r, 0, none⟩)), (4, .bool true)] 14 (G1 r) a w → Q .normal a w) : (regOf 1 C16).wpIn Fence.wide n Try.prog Q a w := by
  simp only [regOf, C16, Try.f16, Option.getD, Nat.reduceBEq, Bool.false_eq_true, if_true, if_false]
  refine region_sq (fun k_ a w => match k_ with | 0 => SG [(1, .pointer (some ⟨bx, 0, none⟩))] 14 G a w | 1 => SG [(6, .agg #[.int .i64 x, .int .i64 y, .int .i64 z])] 14 G a w | 2 => ∃ (r : Nat), SG [(7, .tuple #[.pointer (some ⟨r, 0, none⟩), .bool true])] 14 (G1 r) a w | 3 => ∃ (r : Nat), SG [(5, .tuple #[.pointer (some ⟨r, 0, none⟩), .bool true])] 14 (G1 r) a w | 4 => ∃ (r : Nat), SG [(5, .tuple #[.pointer (some ⟨r, 0, none⟩), .bool true]), (8, .pointer (some ⟨r, 0, none⟩))] 14 (G1 r) a w | 5 => ∃ (r : Nat), SG [(8, .pointer (some ⟨r, 0, none⟩)), (9, .bool true)] 14 (G1 r) a w | 6 => ∃ (r : Nat), SG [(9, .bool true), (3, .pointer (some ⟨r, 0, none⟩))] 14 (G1 r) a w | _ => ∃ (r : Nat), SG [(3, .pointer (some ⟨r, 0, none⟩)), (4, .bool true)] 14 (G1 r) a w) (show SG _ _ G a w from h0) ⟨?_, ?_, ?_, ?_, ?_, ?_, ?_, trivial⟩ ?_
  · intro a w hI
    have hI : SG _ _ G a w := hI
    have e1 := hI.g 1 rfl
    have cc0 := k0 w hI.wp
    have cc1 := k1 w hI.wp
    have cc2 := k2 w hI.wp
    go_simp
    exact hI.put (d := 6) (by decide) (by simp) hI.wp
  · intro a w hI
    have hI : SG _ _ G a w := hI
    have e6 := hI.g 6 rfl
    go_simp
    refine ⟨trivial, fun h => (by cases h), (hc (n - 1) w hI.wp).mono ?_⟩
    rintro e w' ⟨r, rfl, hg2⟩
    exact ⟨r, hI.put (d := 7) (by decide) (by simp) hg2⟩
  · rintro a w ⟨r, hI⟩
    have e7 := hI.g 7 rfl
    go_simp
    exact ⟨r, hI.put (d := 5) (by decide) (by simp) hI.wp⟩
  · rintro a w ⟨r, hI⟩
    have e5 := hI.g 5 rfl
    go_simp
    exact ⟨r, hI.put (d := 8) (by decide) (by simp) hI.wp⟩
  · rintro a w ⟨r, hI⟩
    have e5 := hI.g 5 rfl
    go_simp
    exact ⟨r, hI.put (d := 9) (by decide) (by simp) hI.wp⟩
  · rintro a w ⟨r, hI⟩
    have e8 := hI.g 8 rfl
    go_simp
    exact ⟨r, hI.put (d := 3) (by decide) (by simp) hI.wp⟩
  · rintro a w ⟨r, hI⟩
    have e9 := hI.g 9 rfl
    go_simp
    exact ⟨r, hI.put (d := 4) (by decide) (by simp) hI.wp⟩
  · rintro a w ⟨r, hI⟩
    exact hQ r a w hI
set_option maxRecDepth 100000 in
set_option maxHeartbeats 4000000 in
theorem lm2n (n : Nat) (W : World)  (Q : Exit → Act → World → Prop) (a : Act) (h0 : SR [(3, .pointer none), (4, .bool false)] 14 [] W a W)
    (hQ : ∀ a, SR [(11, .bool true)] 14 [] (W) a (W) → Q .normal a (W)) : (regOf 2 C16).wpIn Fence.wide n Try.prog Q a W := by
  simp only [regOf, C16, Try.f16, Option.getD, Nat.reduceBEq, Bool.false_eq_true, if_true, if_false]
  refine region_sq (fun k_ a w => match k_ with | 0 => SR [(4, .bool false)] 14 [] (W) a w | 1 => SR [(10, .bool false)] 14 [] (W) a w | _ => SR [(11, .bool true)] 14 [] (W) a w) (show SR _ _ _ _ a W from h0.sub (by intro p hp; simp only [List.mem_cons, List.not_mem_nil, or_false] at hp ⊢; simp [hp])) ⟨?_, ?_, trivial⟩ ?_
  · intro a w hI
    have hI : SR _ _ _ _ a w := hI
    have e4 := hI.g 4 rfl
    have hw : w = W := hI.wp
    subst hw
    go_simp
    exact hI.put (d := 10) (by decide) (by simp)
  · intro a w hI
    have hI : SR _ _ _ _ a w := hI
    have e10 := hI.g 10 rfl
    have hw : w = W := hI.wp
    subst hw
    go_simp
    exact hI.put (d := 11) (by decide) (by simp)
  · intro a w hI
    have hI : SR _ _ _ _ a w := hI
    have hw : w = W := hI.wp
    subst hw
    exact hQ a hI
set_option maxRecDepth 100000 in
set_option maxHeartbeats 4000000 in
theorem lm2p (n : Nat) (W : World) (r : Nat) (Q : Exit → Act → World → Prop) (a : Act) (h0 : SR [(3, .pointer (some ⟨r, 0, none⟩)), (4, .bool true)] 14 [] W a W)
    (hQ : ∀ a, SR [(3, .pointer (some ⟨r, 0, none⟩)), (11, .bool false)] 14 [] (W) a (W) → Q .normal a (W)) : (regOf 2 C16).wpIn Fence.wide n Try.prog Q a W := by
  simp only [regOf, C16, Try.f16, Option.getD, Nat.reduceBEq, Bool.false_eq_true, if_true, if_false]
  refine region_sq (fun k_ a w => match k_ with | 0 => SR [(3, .pointer (some ⟨r, 0, none⟩)), (4, .bool true)] 14 [] (W) a w | 1 => SR [(3, .pointer (some ⟨r, 0, none⟩)), (10, .bool true)] 14 [] (W) a w | _ => SR [(3, .pointer (some ⟨r, 0, none⟩)), (11, .bool false)] 14 [] (W) a w) (show SR _ _ _ _ a W from h0) ⟨?_, ?_, trivial⟩ ?_
  · intro a w hI
    have hI : SR _ _ _ _ a w := hI
    have e4 := hI.g 4 rfl
    have hw : w = W := hI.wp
    subst hw
    go_simp
    exact hI.put (d := 10) (by decide) (by simp)
  · intro a w hI
    have hI : SR _ _ _ _ a w := hI
    have e10 := hI.g 10 rfl
    have hw : w = W := hI.wp
    subst hw
    go_simp
    exact hI.put (d := 11) (by decide) (by simp)
  · intro a w hI
    have hI : SR _ _ _ _ a w := hI
    have hw : w = W := hI.wp
    subst hw
    exact hQ a hI
set_option maxRecDepth 100000 in
set_option maxHeartbeats 4000000 in
theorem lm3 (n : Nat) (W : World)  (Q : Exit → Act → World → Prop) (a : Act) (h0 : SR [] 14 [] W a W)
    (hQ : ∀ a, SR [(2, .int .i64 0)] 14 [] (W) a (W) → Q .normal a (W)) : (regOf 3 C16).wpIn Fence.wide n Try.prog Q a W := by
  simp only [regOf, C16, Try.f16, Option.getD, Nat.reduceBEq, Bool.false_eq_true, if_true, if_false]
  refine region_sq (fun k_ a w => match k_ with | 0 => SR [] 14 [] (W) a w | _ => SR [(2, .int .i64 0)] 14 [] (W) a w) (show SR _ _ _ _ a W from h0) ⟨?_, trivial⟩ ?_
  · intro a w hI
    have hI : SR _ _ _ _ a w := hI
    have hw : w = W := hI.wp
    subst hw
    go_simp
    exact hI.put (d := 2) (by decide) (by simp)
  · intro a w hI
    have hI : SR _ _ _ _ a w := hI
    have hw : w = W := hI.wp
    subst hw
    exact hQ a hI
set_option maxRecDepth 100000 in
set_option maxHeartbeats 4000000 in
theorem lm4 (n : Nat) {G : World → Prop} (hS : Stable G) (r : Nat) (c : Int) (hc : ∀ m w, G w → CallsIn Fence.wide m Try.prog 30 #[.pointer (some ⟨r, 0, none⟩)] w fun e w' => e = .returned (.int .i64 c) ∧ Below w.heap.size w w') (Q : Exit → Act → World → Prop) (a : Act) (w : World) (h0 : SG [(3, .pointer (some ⟨r, 0, none⟩))] 14 G a w)
    (hQ : ∀ a w, SG [(2, .int .i64 c)] 14 G a w → Q .normal a w) : (regOf 4 C16).wpIn Fence.wide n Try.prog Q a w := by
  simp only [regOf, C16, Try.f16, Option.getD, Nat.reduceBEq, Bool.false_eq_true, if_true, if_false]
  refine region_sq (fun k_ a w => match k_ with | 0 => SG [(3, .pointer (some ⟨r, 0, none⟩))] 14 G a w | 1 => SG [(12, .pointer (some ⟨r, 0, none⟩))] 14 G a w | 2 => SG [(13, .int .i64 c)] 14 G a w | _ => SG [(2, .int .i64 c)] 14 G a w) (show SG _ _ G a w from h0) ⟨?_, ?_, ?_, trivial⟩ ?_
  · intro a w hI
    have hI : SG _ _ G a w := hI
    have e3 := hI.g 3 rfl
    go_simp
    exact hI.put (d := 12) (by decide) (by simp) hI.wp
  · intro a w hI
    have hI : SG _ _ G a w := hI
    have e12 := hI.g 12 rfl
    go_simp
    refine ⟨trivial, fun h => (by cases h), (hc (n - 1) w hI.wp).mono ?_⟩
    rintro e w' ⟨rfl, hb2⟩
    exact hI.put (d := 13) (by decide) (by simp) (hS _ _ hI.wp hb2)
  · intro a w hI
    have hI : SG _ _ G a w := hI
    have e13 := hI.g 13 rfl
    go_simp
    exact hI.put (d := 2) (by decide) (by simp) hI.wp
  · intro a w hI
    have hI : SG _ _ G a w := hI
    exact hQ a w hI
noncomputable def C13 : Code := Try.f13.body.getD .skip
set_option maxRecDepth 100000 in
set_option maxHeartbeats 4000000 in
theorem mo0p (n : Nat) (W : World) (r : Nat) (x y z : Int)  (Q : Exit → Act → World → Prop) (a : Act) (h0 : SR [(0, .pointer (some ⟨r, 0, none⟩)), (1, .agg #[.int .i64 x, .int .i64 y, .int .i64 z])] 22 [] W a W)
    (hQ : ∀ a, SR [(0, .pointer (some ⟨r, 0, none⟩)), (3, .pointer (some ⟨W.heap.size, 0, none⟩))] 22 [] (W.alloc (.cells #[.int .i64 x, .int .i64 y, .int .i64 z] 33)) a (W.alloc (.cells #[.int .i64 x, .int .i64 y, .int .i64 z] 33)) → Q .normal a (W.alloc (.cells #[.int .i64 x, .int .i64 y, .int .i64 z] 33))) : (regOf 0 C13).wpIn Fence.wide n Try.prog Q a W := by
  simp only [regOf, C13, Try.f13, Option.getD, Nat.reduceBEq, Bool.false_eq_true, if_true, if_false]
  refine region_sq (fun k_ a w => match k_ with | 0 => SR [(0, .pointer (some ⟨r, 0, none⟩)), (1, .agg #[.int .i64 x, .int .i64 y, .int .i64 z])] 22 [] (W) a w | 1 => SR [(0, .pointer (some ⟨r, 0, none⟩)), (3, .pointer (some ⟨W.heap.size, 0, none⟩))] 22 [] (W.alloc (.cells #[.int .i64 x, .int .i64 y, .int .i64 z] 33)) a w | 2 => SR [(0, .pointer (some ⟨r, 0, none⟩)), (3, .pointer (some ⟨W.heap.size, 0, none⟩))] 22 [] (W.alloc (.cells #[.int .i64 x, .int .i64 y, .int .i64 z] 33)) a w | _ => SR [(0, .pointer (some ⟨r, 0, none⟩)), (3, .pointer (some ⟨W.heap.size, 0, none⟩))] 22 [] (W.alloc (.cells #[.int .i64 x, .int .i64 y, .int .i64 z] 33)) a w) (show SR _ _ _ _ a W from h0) ⟨?_, ?_, ?_, trivial⟩ ?_
  · intro a w hI
    have hI : SR _ _ _ _ a w := hI
    have e1 := hI.g 1 rfl
    have hw : w = W := hI.wp
    subst hw
    go_simp
    exact hI.put (d := 3) (by decide) (by simp)
  · intro a w hI
    have hI : SR _ _ _ _ a w := hI
    obtain rfl := hI.wp
    go_simp
    exact hI.put (d := 4) (by decide) (by simp)
  · intro a w hI
    have hI : SR _ _ _ _ a w := hI
    obtain rfl := hI.wp
    go_simp
    exact hI.put (d := 5) (by decide) (by simp)
  · intro a w hI
    have hI : SR _ _ _ _ a w := hI
    obtain rfl := hI.wp
    exact hQ a hI
set_option maxRecDepth 100000 in
set_option maxHeartbeats 4000000 in
theorem mo1p (n : Nat) (W : World) (r : Nat) (bx : Nat) (Q : Exit → Act → World → Prop) (a : Act) (h0 : SR [(0, .pointer (some ⟨r, 0, none⟩)), (3, .pointer (some ⟨bx, 0, none⟩))] 22 [] W a W)
    (hQ : ∀ a, SR [(0, .pointer (some ⟨r, 0, none⟩)), (3, .pointer (some ⟨bx, 0, none⟩)), (9, .bool false)] 22 [] (W) a (W) → Q .normal a (W)) : (regOf 1 C13).wpIn Fence.wide n Try.prog Q a W := by
  simp only [regOf, C13, Try.f13, Option.getD, Nat.reduceBEq, Bool.false_eq_true, if_true, if_false]
  refine region_sq (fun k_ a w => match k_ with | 0 => SR [(0, .pointer (some ⟨r, 0, none⟩)), (3, .pointer (some ⟨bx, 0, none⟩))] 22 [] (W) a w | 1 => SR [(0, .pointer (some ⟨r, 0, none⟩)), (3, .pointer (some ⟨bx, 0, none⟩)), (8, .pointer (some ⟨r, 0, none⟩))] 22 [] (W) a w | _ => SR [(0, .pointer (some ⟨r, 0, none⟩)), (3, .pointer (some ⟨bx, 0, none⟩)), (9, .bool false)] 22 [] (W) a w) (show SR _ _ _ _ a W from h0) ⟨?_, ?_, trivial⟩ ?_
  · intro a w hI
    have hI : SR _ _ _ _ a w := hI
    have e0 := hI.g 0 rfl
    have hw : w = W := hI.wp
    subst hw
    go_simp
    exact hI.put (d := 8) (by decide) (by simp)
  · intro a w hI
    have hI : SR _ _ _ _ a w := hI
    have e8 := hI.g 8 rfl
    have hw : w = W := hI.wp
    subst hw
    go_simp
    exact hI.put (d := 9) (by decide) (by simp)
  · intro a w hI
    have hI : SR _ _ _ _ a w := hI
    have hw : w = W := hI.wp
    subst hw
    exact hQ a hI
set_option maxRecDepth 100000 in
set_option maxHeartbeats 4000000 in
theorem mo0n (n : Nat) (W : World) (x y z : Int)  (Q : Exit → Act → World → Prop) (a : Act) (h0 : SR [(0, .pointer none), (1, .agg #[.int .i64 x, .int .i64 y, .int .i64 z])] 22 [] W a W)
    (hQ : ∀ a, SR [(0, .pointer none), (3, .pointer (some ⟨W.heap.size, 0, none⟩))] 22 [] (W.alloc (.cells #[.int .i64 x, .int .i64 y, .int .i64 z] 33)) a (W.alloc (.cells #[.int .i64 x, .int .i64 y, .int .i64 z] 33)) → Q .normal a (W.alloc (.cells #[.int .i64 x, .int .i64 y, .int .i64 z] 33))) : (regOf 0 C13).wpIn Fence.wide n Try.prog Q a W := by
  simp only [regOf, C13, Try.f13, Option.getD, Nat.reduceBEq, Bool.false_eq_true, if_true, if_false]
  refine region_sq (fun k_ a w => match k_ with | 0 => SR [(0, .pointer none), (1, .agg #[.int .i64 x, .int .i64 y, .int .i64 z])] 22 [] (W) a w | 1 => SR [(0, .pointer none), (3, .pointer (some ⟨W.heap.size, 0, none⟩))] 22 [] (W.alloc (.cells #[.int .i64 x, .int .i64 y, .int .i64 z] 33)) a w | 2 => SR [(0, .pointer none), (3, .pointer (some ⟨W.heap.size, 0, none⟩))] 22 [] (W.alloc (.cells #[.int .i64 x, .int .i64 y, .int .i64 z] 33)) a w | _ => SR [(0, .pointer none), (3, .pointer (some ⟨W.heap.size, 0, none⟩))] 22 [] (W.alloc (.cells #[.int .i64 x, .int .i64 y, .int .i64 z] 33)) a w) (show SR _ _ _ _ a W from h0) ⟨?_, ?_, ?_, trivial⟩ ?_
  · intro a w hI
    have hI : SR _ _ _ _ a w := hI
    have e1 := hI.g 1 rfl
    have hw : w = W := hI.wp
    subst hw
    go_simp
    exact hI.put (d := 3) (by decide) (by simp)
  · intro a w hI
    have hI : SR _ _ _ _ a w := hI
    obtain rfl := hI.wp
    go_simp
    exact hI.put (d := 4) (by decide) (by simp)
  · intro a w hI
    have hI : SR _ _ _ _ a w := hI
    obtain rfl := hI.wp
    go_simp
    exact hI.put (d := 5) (by decide) (by simp)
  · intro a w hI
    have hI : SR _ _ _ _ a w := hI
    obtain rfl := hI.wp
    exact hQ a hI
set_option maxRecDepth 100000 in
set_option maxHeartbeats 4000000 in
theorem mo1n (n : Nat) (W : World) (bx : Nat) (Q : Exit → Act → World → Prop) (a : Act) (h0 : SR [(0, .pointer none), (3, .pointer (some ⟨bx, 0, none⟩))] 22 [] W a W)
    (hQ : ∀ a, SR [(0, .pointer none), (3, .pointer (some ⟨bx, 0, none⟩)), (9, .bool true)] 22 [] (W) a (W) → Q .normal a (W)) : (regOf 1 C13).wpIn Fence.wide n Try.prog Q a W := by
  simp only [regOf, C13, Try.f13, Option.getD, Nat.reduceBEq, Bool.false_eq_true, if_true, if_false]
  refine region_sq (fun k_ a w => match k_ with | 0 => SR [(0, .pointer none), (3, .pointer (some ⟨bx, 0, none⟩))] 22 [] (W) a w | 1 => SR [(0, .pointer none), (3, .pointer (some ⟨bx, 0, none⟩)), (8, .pointer none)] 22 [] (W) a w | _ => SR [(0, .pointer none), (3, .pointer (some ⟨bx, 0, none⟩)), (9, .bool true)] 22 [] (W) a w) (show SR _ _ _ _ a W from h0) ⟨?_, ?_, trivial⟩ ?_
  · intro a w hI
    have hI : SR _ _ _ _ a w := hI
    have e0 := hI.g 0 rfl
    have hw : w = W := hI.wp
    subst hw
    go_simp
    exact hI.put (d := 8) (by decide) (by simp)
  · intro a w hI
    have hI : SR _ _ _ _ a w := hI
    have e8 := hI.g 8 rfl
    have hw : w = W := hI.wp
    subst hw
    go_simp
    exact hI.put (d := 9) (by decide) (by simp)
  · intro a w hI
    have hI : SR _ _ _ _ a w := hI
    have hw : w = W := hI.wp
    subst hw
    exact hQ a hI
set_option maxRecDepth 100000 in
set_option maxHeartbeats 4000000 in
theorem mo2 (n : Nat) (W : World)  (Q : Exit → Act → World → Prop) (a : Act) (h0 : SR [] 22 [] W a W)
    (hQ : ∀ a, SR [(4, .int .i64 0), (5, .int .i64 1)] 22 [] (W) a (W) → Q .normal a (W)) : (regOf 2 C13).wpIn Fence.wide n Try.prog Q a W := by
  simp only [regOf, C13, Try.f13, Option.getD, Nat.reduceBEq, Bool.false_eq_true, if_true, if_false]
  refine region_sq (fun k_ a w => match k_ with | 0 => SR [] 22 [] (W) a w | 1 => SR [(4, .int .i64 0)] 22 [] (W) a w | _ => SR [(4, .int .i64 0), (5, .int .i64 1)] 22 [] (W) a w) (show SR _ _ _ _ a W from h0) ⟨?_, ?_, trivial⟩ ?_
  · intro a w hI
    have hI : SR _ _ _ _ a w := hI
    have hw : w = W := hI.wp
    subst hw
    go_simp
    exact hI.put (d := 4) (by decide) (by simp)
  · intro a w hI
    have hI : SR _ _ _ _ a w := hI
    have hw : w = W := hI.wp
    subst hw
    go_simp
    exact hI.put (d := 5) (by decide) (by simp)
  · intro a w hI
    have hI : SR _ _ _ _ a w := hI
    have hw : w = W := hI.wp
    subst hw
    exact hQ a hI
set_option maxRecDepth 100000 in
set_option maxHeartbeats 4000000 in
theorem mo3n (n : Nat) {G : World → Prop} (hS : Stable G) (r bx : Nat) (x y z : Int)  (k0 : ∀ w, G w → w.cell? ⟨bx, 0, none⟩ = some (.int .i64 x)) (k1 : ∀ w, G w → w.cell? ⟨bx, 1, none⟩ = some (.int .i64 y)) (k2 : ∀ w, G w → w.cell? ⟨bx, 2, none⟩ = some (.int .i64 z)) (hc : ∀ m w, G w → CallsIn Fence.wide m Try.prog 24 #[.agg #[.int .i64 x, .int .i64 y, .int .i64 z]] w fun e w' => e = .returned (.tuple #[.pointer none, .bool false]) ∧ Below w.heap.size w w') (Q : Exit → Act → World → Prop) (a : Act) (w : World) (h0 : SG [(0, .pointer (some ⟨r, 0, none⟩)), (3, .pointer (some ⟨bx, 0, none⟩))] 22 G a w)
    (hQ : ∀ a w, SG [(0, .pointer (some ⟨r, 0, none⟩)), (3, .pointer (some ⟨bx, 0, none⟩)), (7, .bool false)] 22 G a w → Q .normal a w) : (regOf 3 C13).wpIn Fence.wide n Try.prog Q a w := by
  simp only [regOf, C13, Try.f13, Option.getD, Nat.reduceBEq, Bool.false_eq_true, if_true, if_false]
  refine region_sq (fun k_ a w => match k_ with | 0 => SG [(0, .pointer (some ⟨r, 0, none⟩)), (3, .pointer (some ⟨bx, 0, none⟩))] 22 G a w | 1 => SG [(0, .pointer (some ⟨r, 0, none⟩)), (3, .pointer (some ⟨bx, 0, none⟩)), (11, .agg #[.int .i64 x, .int .i64 y, .int .i64 z])] 22 G a w | 2 => SG [(0, .pointer (some ⟨r, 0, none⟩)), (3, .pointer (some ⟨bx, 0, none⟩)), (12, .tuple #[.pointer none, .bool false])] 22 G a w | 3 => SG [(0, .pointer (some ⟨r, 0, none⟩)), (3, .pointer (some ⟨bx, 0, none⟩)), (10, .tuple #[.pointer none, .bool false])] 22 G a w | 4 => SG [(0, .pointer (some ⟨r, 0, none⟩)), (3, .pointer (some ⟨bx, 0, none⟩)), (10, .tuple #[.pointer none, .bool false]), (13, .pointer none)] 22 G a w | 5 => SG [(0, .pointer (some ⟨r, 0, none⟩)), (3, .pointer (some ⟨bx, 0, none⟩)), (13, .pointer none), (14, .bool false)] 22 G a w | 6 => SG [(0, .pointer (some ⟨r, 0, none⟩)), (3, .pointer (some ⟨bx, 0, none⟩)), (14, .bool false)] 22 G a w | _ => SG [(0, .pointer (some ⟨r, 0, none⟩)), (3, .pointer (some ⟨bx, 0, none⟩)), (7, .bool false)] 22 G a w) (show SG _ _ G a w from h0) ⟨?_, ?_, ?_, ?_, ?_, ?_, ?_, trivial⟩ ?_
  · intro a w hI
    have hI : SG _ _ G a w := hI
    have e3 := hI.g 3 rfl
    have cc0 := k0 w hI.wp
    have cc1 := k1 w hI.wp
    have cc2 := k2 w hI.wp
    go_simp
    exact hI.put (d := 11) (by decide) (by simp) hI.wp
  · intro a w hI
    have hI : SG _ _ G a w := hI
    have e11 := hI.g 11 rfl
    go_simp
    refine ⟨trivial, fun h => (by cases h), (hc (n - 1) w hI.wp).mono ?_⟩
    rintro e w' ⟨rfl, hb2⟩
    exact hI.put (d := 12) (by decide) (by simp) (hS _ _ hI.wp hb2)
  · intro a w hI
    have hI : SG _ _ G a w := hI
    have e12 := hI.g 12 rfl
    go_simp
    exact hI.put (d := 10) (by decide) (by simp) hI.wp
  · intro a w hI
    have hI : SG _ _ G a w := hI
    have e10 := hI.g 10 rfl
    go_simp
    exact hI.put (d := 13) (by decide) (by simp) hI.wp
  · intro a w hI
    have hI : SG _ _ G a w := hI
    have e10 := hI.g 10 rfl
    go_simp
    exact hI.put (d := 14) (by decide) (by simp) hI.wp
  · intro a w hI
    have hI : SG _ _ G a w := hI
    have e13 := hI.g 13 rfl
    go_simp
    exact hI.put (d := 6) (by decide) (by simp) hI.wp
  · intro a w hI
    have hI : SG _ _ G a w := hI
    have e14 := hI.g 14 rfl
    go_simp
    exact hI.put (d := 7) (by decide) (by simp) hI.wp
  · intro a w hI
    have hI : SG _ _ G a w := hI
    exact hQ a w hI
set_option maxRecDepth 100000 in
set_option maxHeartbeats 4000000 in
theorem mo3p (n : Nat) {G : World → Prop} (r bx : Nat) (x y z : Int) (G1 : Nat → World → Prop) (k0 : ∀ w, G w → w.cell? ⟨bx, 0, none⟩ = some (.int .i64 x)) (k1 : ∀ w, G w → w.cell? ⟨bx, 1, none⟩ = some (.int .i64 y)) (k2 : ∀ w, G w → w.cell? ⟨bx, 2, none⟩ = some (.int .i64 z)) (hc : ∀ m w, G w → CallsIn Fence.wide m Try.prog 24 #[.agg #[.int .i64 x, .int .i64 y, .int .i64 z]] w fun e w' => ∃ (r2 : Nat), e = .returned (.tuple #[.pointer (some ⟨r2, 0, none⟩), .bool true]) ∧ (G1 r2) w') (Q : Exit → Act → World → Prop) (a : Act) (w : World) (h0 : SG [(0, .pointer (some ⟨r, 0, none⟩)), (3, .pointer (some ⟨bx, 0, none⟩))] 22 G a w)
    (hQ : ∀ (r2 : Nat) a w, SG [(0, .pointer (some ⟨r, 0, none⟩)), (3, .pointer (some ⟨bx, 0, none⟩)), (7, .bool true)] 22 (G1 r2) a w → Q .normal a w) : (regOf 3 C13).wpIn Fence.wide n Try.prog Q a w := by
  simp only [regOf, C13, Try.f13, Option.getD, Nat.reduceBEq, Bool.false_eq_true, if_true, if_false]
  refine region_sq (fun k_ a w => match k_ with | 0 => SG [(0, .pointer (some ⟨r, 0, none⟩)), (3, .pointer (some ⟨bx, 0, none⟩))] 22 G a w | 1 => SG [(0, .pointer (some ⟨r, 0, none⟩)), (3, .pointer (some ⟨bx, 0, none⟩)), (11, .agg #[.int .i64 x, .int .i64 y, .int .i64 z])] 22 G a w | 2 => ∃ (r2 : Nat), SG [(0, .pointer (some ⟨r, 0, none⟩)), (3, .pointer (some ⟨bx, 0, none⟩)), (12, .tuple #[.pointer (some ⟨r2, 0, none⟩), .bool true])] 22 (G1 r2) a w | 3 => ∃ (r2 : Nat), SG [(0, .pointer (some ⟨r, 0, none⟩)), (3, .pointer (some ⟨bx, 0, none⟩)), (10, .tuple #[.pointer (some ⟨r2, 0, none⟩), .bool true])] 22 (G1 r2) a w | 4 => ∃ (r2 : Nat), SG [(0, .pointer (some ⟨r, 0, none⟩)), (3, .pointer (some ⟨bx, 0, none⟩)), (10, .tuple #[.pointer (some ⟨r2, 0, none⟩), .bool true]), (13, .pointer (some ⟨r2, 0, none⟩))] 22 (G1 r2) a w | 5 => ∃ (r2 : Nat), SG [(0, .pointer (some ⟨r, 0, none⟩)), (3, .pointer (some ⟨bx, 0, none⟩)), (13, .pointer (some ⟨r2, 0, none⟩)), (14, .bool true)] 22 (G1 r2) a w | 6 => ∃ (r2 : Nat), SG [(0, .pointer (some ⟨r, 0, none⟩)), (3, .pointer (some ⟨bx, 0, none⟩)), (14, .bool true)] 22 (G1 r2) a w | _ => ∃ (r2 : Nat), SG [(0, .pointer (some ⟨r, 0, none⟩)), (3, .pointer (some ⟨bx, 0, none⟩)), (7, .bool true)] 22 (G1 r2) a w) (show SG _ _ G a w from h0) ⟨?_, ?_, ?_, ?_, ?_, ?_, ?_, trivial⟩ ?_
  · intro a w hI
    have hI : SG _ _ G a w := hI
    have e3 := hI.g 3 rfl
    have cc0 := k0 w hI.wp
    have cc1 := k1 w hI.wp
    have cc2 := k2 w hI.wp
    go_simp
    exact hI.put (d := 11) (by decide) (by simp) hI.wp
  · intro a w hI
    have hI : SG _ _ G a w := hI
    have e11 := hI.g 11 rfl
    go_simp
    refine ⟨trivial, fun h => (by cases h), (hc (n - 1) w hI.wp).mono ?_⟩
    rintro e w' ⟨r2, rfl, hg2⟩
    exact ⟨r2, hI.put (d := 12) (by decide) (by simp) hg2⟩
  · rintro a w ⟨r2, hI⟩
    have e12 := hI.g 12 rfl
    go_simp
    exact ⟨r2, hI.put (d := 10) (by decide) (by simp) hI.wp⟩
  · rintro a w ⟨r2, hI⟩
    have e10 := hI.g 10 rfl
    go_simp
    exact ⟨r2, hI.put (d := 13) (by decide) (by simp) hI.wp⟩
  · rintro a w ⟨r2, hI⟩
    have e10 := hI.g 10 rfl
    go_simp
    exact ⟨r2, hI.put (d := 14) (by decide) (by simp) hI.wp⟩
  · rintro a w ⟨r2, hI⟩
    have e13 := hI.g 13 rfl
    go_simp
    exact ⟨r2, hI.put (d := 6) (by decide) (by simp) hI.wp⟩
  · rintro a w ⟨r2, hI⟩
    have e14 := hI.g 14 rfl
    go_simp
    exact ⟨r2, hI.put (d := 7) (by decide) (by simp) hI.wp⟩
  · rintro a w ⟨r2, hI⟩
    exact hQ r2 a w hI
set_option maxRecDepth 100000 in
set_option maxHeartbeats 4000000 in
theorem mo4n (n : Nat) (W : World) (r bx : Nat) (Q : Exit → Act → World → Prop) (a : Act) (h0 : SR [(0, .pointer (some ⟨r, 0, none⟩)), (3, .pointer (some ⟨bx, 0, none⟩)), (7, .bool false)] 22 [] W a W)
    (hQ : ∀ a, SR [(16, .bool true)] 22 [] (W) a (W) → Q .normal a (W)) : (regOf 4 C13).wpIn Fence.wide n Try.prog Q a W := by
  simp only [regOf, C13, Try.f13, Option.getD, Nat.reduceBEq, Bool.false_eq_true, if_true, if_false]
  refine region_sq (fun k_ a w => match k_ with | 0 => SR [(7, .bool false)] 22 [] (W) a w | 1 => SR [(15, .bool false)] 22 [] (W) a w | _ => SR [(16, .bool true)] 22 [] (W) a w) (show SR _ _ _ _ a W from h0.sub (by intro p hp; simp only [List.mem_cons, List.not_mem_nil, or_false] at hp ⊢; simp [hp])) ⟨?_, ?_, trivial⟩ ?_
  · intro a w hI
    have hI : SR _ _ _ _ a w := hI
    have e7 := hI.g 7 rfl
    have hw : w = W := hI.wp
    subst hw
    go_simp
    exact hI.put (d := 15) (by decide) (by simp)
  · intro a w hI
    have hI : SR _ _ _ _ a w := hI
    have e15 := hI.g 15 rfl
    have hw : w = W := hI.wp
    subst hw
    go_simp
    exact hI.put (d := 16) (by decide) (by simp)
  · intro a w hI
    have hI : SR _ _ _ _ a w := hI
    have hw : w = W := hI.wp
    subst hw
    exact hQ a hI
set_option maxRecDepth 100000 in
set_option maxHeartbeats 4000000 in
theorem mo4p (n : Nat) (W : World) (r bx : Nat) (Q : Exit → Act → World → Prop) (a : Act) (h0 : SR [(0, .pointer (some ⟨r, 0, none⟩)), (3, .pointer (some ⟨bx, 0, none⟩)), (7, .bool true)] 22 [] W a W)
    (hQ : ∀ a, SR [(0, .pointer (some ⟨r, 0, none⟩)), (3, .pointer (some ⟨bx, 0, none⟩)), (16, .bool false)] 22 [] (W) a (W) → Q .normal a (W)) : (regOf 4 C13).wpIn Fence.wide n Try.prog Q a W := by
  simp only [regOf, C13, Try.f13, Option.getD, Nat.reduceBEq, Bool.false_eq_true, if_true, if_false]
  refine region_sq (fun k_ a w => match k_ with | 0 => SR [(0, .pointer (some ⟨r, 0, none⟩)), (3, .pointer (some ⟨bx, 0, none⟩)), (7, .bool true)] 22 [] (W) a w | 1 => SR [(0, .pointer (some ⟨r, 0, none⟩)), (3, .pointer (some ⟨bx, 0, none⟩)), (15, .bool true)] 22 [] (W) a w | _ => SR [(0, .pointer (some ⟨r, 0, none⟩)), (3, .pointer (some ⟨bx, 0, none⟩)), (16, .bool false)] 22 [] (W) a w) (show SR _ _ _ _ a W from h0) ⟨?_, ?_, trivial⟩ ?_
  · intro a w hI
    have hI : SR _ _ _ _ a w := hI
    have e7 := hI.g 7 rfl
    have hw : w = W := hI.wp
    subst hw
    go_simp
    exact hI.put (d := 15) (by decide) (by simp)
  · intro a w hI
    have hI : SR _ _ _ _ a w := hI
    have e15 := hI.g 15 rfl
    have hw : w = W := hI.wp
    subst hw
    go_simp
    exact hI.put (d := 16) (by decide) (by simp)
  · intro a w hI
    have hI : SR _ _ _ _ a w := hI
    have hw : w = W := hI.wp
    subst hw
    exact hQ a hI
set_option maxRecDepth 100000 in
set_option maxHeartbeats 4000000 in
theorem mo5 (n : Nat) (W : World)  (Q : Exit → Act → World → Prop) (a : Act) (h0 : SR [] 22 [] W a W)
    (hQ : ∀ a, SR [(4, .int .i64 0), (5, .int .i64 10)] 22 [] (W) a (W) → Q .normal a (W)) : (regOf 5 C13).wpIn Fence.wide n Try.prog Q a W := by
  simp only [regOf, C13, Try.f13, Option.getD, Nat.reduceBEq, Bool.false_eq_true, if_true, if_false]
  refine region_sq (fun k_ a w => match k_ with | 0 => SR [] 22 [] (W) a w | 1 => SR [(4, .int .i64 0)] 22 [] (W) a w | _ => SR [(4, .int .i64 0), (5, .int .i64 10)] 22 [] (W) a w) (show SR _ _ _ _ a W from h0) ⟨?_, ?_, trivial⟩ ?_
  · intro a w hI
    have hI : SR _ _ _ _ a w := hI
    have hw : w = W := hI.wp
    subst hw
    go_simp
    exact hI.put (d := 4) (by decide) (by simp)
  · intro a w hI
    have hI : SR _ _ _ _ a w := hI
    have hw : w = W := hI.wp
    subst hw
    go_simp
    exact hI.put (d := 5) (by decide) (by simp)
  · intro a w hI
    have hI : SR _ _ _ _ a w := hI
    have hw : w = W := hI.wp
    subst hw
    exact hQ a hI
set_option maxRecDepth 100000 in
set_option maxHeartbeats 4000000 in
theorem mo6 (n : Nat) {G : World → Prop} (hS : Stable G) (r bx : Nat) (c l : Int) (hc1 : 0 ≤ c) (hc2 : c ≤ 4096) (hl1 : 0 ≤ l) (hl2 : l ≤ 4096) (x y z : Int)  (k0 : ∀ w, G w → w.cell? ⟨bx, 0, none⟩ = some (.int .i64 x)) (k1 : ∀ w, G w → w.cell? ⟨bx, 1, none⟩ = some (.int .i64 y)) (k2 : ∀ w, G w → w.cell? ⟨bx, 2, none⟩ = some (.int .i64 z)) (hc : ∀ m w, G w → CallsIn Fence.wide m Try.prog 30 #[.pointer (some ⟨r, 0, none⟩)] w fun e w' => e = .returned (.int .i64 c) ∧ Below w.heap.size w w') (hl : ∀ m w, G w → CallsIn Fence.wide m Try.prog 16 #[.agg #[.int .i64 x, .int .i64 y, .int .i64 z]] w fun e w' => e = .returned (.int .i64 l) ∧ Below w.heap.size w w') (Q : Exit → Act → World → Prop) (a : Act) (w : World) (h0 : SG [(0, .pointer (some ⟨r, 0, none⟩)), (3, .pointer (some ⟨bx, 0, none⟩))] 22 G a w)
    (hQ : ∀ a w, SG [(4, .int .i64 ((c : Int) - l)), (5, .int .i64 0)] 22 G a w → Q .normal a w) : (regOf 6 C13).wpIn Fence.wide n Try.prog Q a w := by
  have hmix : Try.prog.follows .mixedOrders = true := by kernel_rfl
  simp only [regOf, C13, Try.f13, Option.getD, Nat.reduceBEq, Bool.false_eq_true, if_true, if_false]
  refine region_inv (RI [(0, .pointer (some ⟨r, 0, none⟩)), (3, .pointer (some ⟨bx, 0, none⟩))]
    [(0, 17, .pointer (some ⟨r, 0, none⟩)), (1, 18, .int .i64 c), (2, 19, .agg #[.int .i64 x, .int .i64 y, .int .i64 z]), (3, 20, .int .i64 l), (4, 21, .int .i64 ((c : Int) - l)), (5, 4, .int .i64 ((c : Int) - l)), (6, 5, .int .i64 0)] 22 [] (fun _ w => G w)) hmix (by kernel_rfl) ⟨h0.size, h0.defers, h0.kn, by simp, hS _ _ h0.wp (Below.refl _ _).drew⟩ ⟨?_, ?_, ?_, ?_, ?_, ?_, ?_, trivial⟩ ?_
  · intro Xs a w hX hdep hC hI
    have e0 := hI.gi 0 rfl
    go_simp
    exact hI.put' (k := 0) (d := 17) (by decide) (by simp) (by simp) (by simp) hI.wp
  · intro Xs a w hX hdep hC hI
    have x0 : Xs 0 = true := hdep ⟨0, .data⟩ (by simp) rfl
    have e17 := hI.gk 0 rfl x0
    go_simp
    refine ⟨trivial, fun h => (by cases h), (hc (n - 1) w hI.wp).mono ?_⟩
    rintro e w' ⟨rfl, hb2⟩
    exact hI.put' (k := 1) (d := 18) (by decide) (by simp) (by simp) (by simp) (hS _ _ hI.wp hb2)
  · intro Xs a w hX hdep hC hI
    have e3 := hI.gi 3 rfl
    have cc0 := k0 w hI.wp
    have cc1 := k1 w hI.wp
    have cc2 := k2 w hI.wp
    go_simp
    exact hI.put' (k := 2) (d := 19) (by decide) (by simp) (by simp) (by simp) hI.wp
  · intro Xs a w hX hdep hC hI
    have x2 : Xs 2 = true := hdep ⟨2, .data⟩ (by simp) rfl
    have e19 := hI.gk 2 rfl x2
    go_simp
    refine ⟨trivial, fun h => (by cases h), (hl (n - 1) w hI.wp).mono ?_⟩
    rintro e w' ⟨rfl, hb2⟩
    exact hI.put' (k := 3) (d := 20) (by decide) (by simp) (by simp) (by simp) (hS _ _ hI.wp hb2)
  · intro Xs a w hX hdep hC hI
    have x1 : Xs 1 = true := hdep ⟨1, .data⟩ (by simp) rfl
    have e18 := hI.gk 1 rfl x1
    have x3 : Xs 3 = true := hdep ⟨3, .data⟩ (by simp) rfl
    have e20 := hI.gk 3 rfl x3
    have hw4 : IntKind.i64.wrap ((c : Int) - l) = (c : Int) - l := IntWalk.i64_in _ (by omega)
    go_simp
    exact hI.put' (k := 4) (d := 21) (v := .int .i64 ((c : Int) - l)) (by decide) (by simp) (by simp) (by simp) hI.wp
  · intro Xs a w hX hdep hC hI
    have x4 : Xs 4 = true := hdep ⟨4, .data⟩ (by simp) rfl
    have e21 := hI.gk 4 rfl x4
    go_simp
    exact hI.put' (k := 5) (d := 4) (v := .int .i64 ((c : Int) - l)) (by decide) (by simp) (by simp) (by simp) hI.wp
  · intro Xs a w hX hdep hC hI
    go_simp
    exact hI.put' (k := 6) (d := 5) (by decide) (by simp) (by simp) (by simp) hI.wp
  · intro Xs a w hX hI
    refine hQ a w ⟨hI.size, hI.defers, ?_, hI.wp⟩
    simp only [List.mem_cons, List.not_mem_nil, or_false, forall_eq_or_imp, forall_eq]
    exact ⟨hI.gk 5 rfl (hX 5 (by simp)), hI.gk 6 rfl (hX 6 (by simp))⟩
abbrev zr15 : Array Value := #[.int .i64 0, .int .i64 0, .int .i64 0, .int .i64 0, .int .i64 0, .int .i64 0, .int .i64 0, .int .i64 0, .int .i64 0, .int .i64 0, .int .i64 0, .int .i64 0, .int .i64 0, .int .i64 0, .int .i64 0]
/-- All cells of a chunk, as one value. -/
def aggA (A : Nat → Int) : Value := .agg ((List.range 8192).map fun j => Value.int .u8 (A j)).toArray
theorem operIn_load {F : Fence} {nF : Nat} {P : Program} {w : World} {K : Act → World → Prop} {o : Oper} {a : Act} {Q : Exit → Act → World → Prop} (x : Operand) (t : TypeId) (ho : o.op = .load t x) (v : Value)
    (hr : (Instr.loadAt t (a.eval x)).run P w = .ok v w) (h : K (a.put o.dst v) w) : o.wpIn F nF P a w K Q := by
  unfold Oper.wpIn
  refine ⟨by simp [Oper.about, ho], ?_⟩
  rw [Oper.semAt_plain F _ _ (by rw [ho]; intro c hc'; cases hc')]
  simp [execOp, ho, hr, Result.andThen]
  exact h
theorem operIn_index {F : Fence} {nF : Nat} {P : Program} {w : World} {K : Act → World → Prop} {o : Oper} {a : Act} {Q : Exit → Act → World → Prop} (x i : Operand) (t : TypeId) (ho : o.op = .index t x i) (v : Value)
    (hr : (Instr.index t (a.eval x) (a.eval i)).run P w = .ok v w) (h : K (a.put o.dst v) w) : o.wpIn F nF P a w K Q := by
  unfold Oper.wpIn
  refine ⟨by simp [Oper.about, ho], ?_⟩
  rw [Oper.semAt_plain F _ _ (by rw [ho]; intro c hc'; cases hc')]
  simp [execOp, ho, hr, Result.andThen]
  exact h
theorem operIn_store {F : Fence} {nF : Nat} {P : Program} {w w' : World} {K : Act → World → Prop} {o : Oper} {a : Act} {Q : Exit → Act → World → Prop} (p x : Operand) (t : TypeId) (ho : o.op = .store t p x) (hd : o.dst = none)
    (hr : (Instr.storeAt t (a.eval p) (a.eval x)).run P w = .ok () w') (h : K a w') : o.wpIn F nF P a w K Q := by
  unfold Oper.wpIn
  refine ⟨by simp [Oper.about, ho], ?_⟩
  rw [Oper.semAt_plain F _ _ (by rw [ho]; intro c hc'; cases hc')]
  simp only [execOp, ho, hr, Result.andThen, Sem.run_bind, Sem.run_map]
  have h2 : K (a.put o.dst undef) w' := by rw [hd]; exact h
  exact h2
noncomputable def C14 : Code := Try.f14.body.getD .skip
set_option maxRecDepth 100000 in
set_option maxHeartbeats 4000000 in
theorem kd0p (n : Nat) (W : World) (r : Nat)  (Q : Exit → Act → World → Prop) (a : Act) (h0 : SR [(0, .pointer (some ⟨r, 0, none⟩))] 27 [] W a W)
    (hQ : ∀ a, SR [(0, .pointer (some ⟨r, 0, none⟩)), (2, .pointer (some ⟨W.heap.size, 0, none⟩))] 27 [] (W.alloc (.cells (zr15) 39)) a (W.alloc (.cells (zr15) 39)) → Q .normal a (W.alloc (.cells (zr15) 39))) : (regOf 0 C14).wpIn Fence.wide n Try.prog Q a W := by
  simp only [regOf, C14, Try.f14, Option.getD, Nat.reduceBEq, Bool.false_eq_true, if_true, if_false]
  refine region_sq (fun k_ a w => match k_ with | 0 => SR [(0, .pointer (some ⟨r, 0, none⟩))] 27 [] (W) a w | _ => SR [(0, .pointer (some ⟨r, 0, none⟩)), (2, .pointer (some ⟨W.heap.size, 0, none⟩))] 27 [] (W.alloc (.cells (zr15) 39)) a w) (show SR _ _ _ _ a W from h0) ⟨?_, trivial⟩ ?_
  · intro a w hI
    have hI : SR _ _ _ _ a w := hI
    have hw : w = W := hI.wp
    subst hw
    go_simp
    exact hI.put (d := 2) (by decide) (by simp)
  · intro a w hI
    have hI : SR _ _ _ _ a w := hI
    obtain rfl := hI.wp
    exact hQ a hI
set_option maxRecDepth 100000 in
set_option maxHeartbeats 4000000 in
theorem kd1p (n : Nat) (W : World) (r : Nat) (o : Nat) (Q : Exit → Act → World → Prop) (a : Act) (h0 : SR [(0, .pointer (some ⟨r, 0, none⟩)), (2, .pointer (some ⟨o, 0, none⟩))] 27 [] W a W)
    (hQ : ∀ a, SR [(0, .pointer (some ⟨r, 0, none⟩)), (2, .pointer (some ⟨o, 0, none⟩)), (6, .bool false)] 27 [] (W) a (W) → Q .normal a (W)) : (regOf 1 C14).wpIn Fence.wide n Try.prog Q a W := by
  simp only [regOf, C14, Try.f14, Option.getD, Nat.reduceBEq, Bool.false_eq_true, if_true, if_false]
  refine region_sq (fun k_ a w => match k_ with | 0 => SR [(0, .pointer (some ⟨r, 0, none⟩)), (2, .pointer (some ⟨o, 0, none⟩))] 27 [] (W) a w | 1 => SR [(0, .pointer (some ⟨r, 0, none⟩)), (2, .pointer (some ⟨o, 0, none⟩)), (5, .pointer (some ⟨r, 0, none⟩))] 27 [] (W) a w | _ => SR [(0, .pointer (some ⟨r, 0, none⟩)), (2, .pointer (some ⟨o, 0, none⟩)), (6, .bool false)] 27 [] (W) a w) (show SR _ _ _ _ a W from h0) ⟨?_, ?_, trivial⟩ ?_
  · intro a w hI
    have hI : SR _ _ _ _ a w := hI
    have e0 := hI.g 0 rfl
    have hw : w = W := hI.wp
    subst hw
    go_simp
    exact hI.put (d := 5) (by decide) (by simp)
  · intro a w hI
    have hI : SR _ _ _ _ a w := hI
    have e5 := hI.g 5 rfl
    have hw : w = W := hI.wp
    subst hw
    go_simp
    exact hI.put (d := 6) (by decide) (by simp)
  · intro a w hI
    have hI : SR _ _ _ _ a w := hI
    have hw : w = W := hI.wp
    subst hw
    exact hQ a hI
set_option maxRecDepth 100000 in
set_option maxHeartbeats 4000000 in
theorem kd0n (n : Nat) (W : World)  (Q : Exit → Act → World → Prop) (a : Act) (h0 : SR [(0, .pointer none)] 27 [] W a W)
    (hQ : ∀ a, SR [(0, .pointer none), (2, .pointer (some ⟨W.heap.size, 0, none⟩))] 27 [] (W.alloc (.cells (zr15) 39)) a (W.alloc (.cells (zr15) 39)) → Q .normal a (W.alloc (.cells (zr15) 39))) : (regOf 0 C14).wpIn Fence.wide n Try.prog Q a W := by
  simp only [regOf, C14, Try.f14, Option.getD, Nat.reduceBEq, Bool.false_eq_true, if_true, if_false]
  refine region_sq (fun k_ a w => match k_ with | 0 => SR [(0, .pointer none)] 27 [] (W) a w | _ => SR [(0, .pointer none), (2, .pointer (some ⟨W.heap.size, 0, none⟩))] 27 [] (W.alloc (.cells (zr15) 39)) a w) (show SR _ _ _ _ a W from h0) ⟨?_, trivial⟩ ?_
  · intro a w hI
    have hI : SR _ _ _ _ a w := hI
    have hw : w = W := hI.wp
    subst hw
    go_simp
    exact hI.put (d := 2) (by decide) (by simp)
  · intro a w hI
    have hI : SR _ _ _ _ a w := hI
    obtain rfl := hI.wp
    exact hQ a hI
set_option maxRecDepth 100000 in
set_option maxHeartbeats 4000000 in
theorem kd1n (n : Nat) (W : World) (o : Nat) (Q : Exit → Act → World → Prop) (a : Act) (h0 : SR [(0, .pointer none), (2, .pointer (some ⟨o, 0, none⟩))] 27 [] W a W)
    (hQ : ∀ a, SR [(0, .pointer none), (2, .pointer (some ⟨o, 0, none⟩)), (6, .bool true)] 27 [] (W) a (W) → Q .normal a (W)) : (regOf 1 C14).wpIn Fence.wide n Try.prog Q a W := by
  simp only [regOf, C14, Try.f14, Option.getD, Nat.reduceBEq, Bool.false_eq_true, if_true, if_false]
  refine region_sq (fun k_ a w => match k_ with | 0 => SR [(0, .pointer none), (2, .pointer (some ⟨o, 0, none⟩))] 27 [] (W) a w | 1 => SR [(0, .pointer none), (2, .pointer (some ⟨o, 0, none⟩)), (5, .pointer none)] 27 [] (W) a w | _ => SR [(0, .pointer none), (2, .pointer (some ⟨o, 0, none⟩)), (6, .bool true)] 27 [] (W) a w) (show SR _ _ _ _ a W from h0) ⟨?_, ?_, trivial⟩ ?_
  · intro a w hI
    have hI : SR _ _ _ _ a w := hI
    have e0 := hI.g 0 rfl
    have hw : w = W := hI.wp
    subst hw
    go_simp
    exact hI.put (d := 5) (by decide) (by simp)
  · intro a w hI
    have hI : SR _ _ _ _ a w := hI
    have e5 := hI.g 5 rfl
    have hw : w = W := hI.wp
    subst hw
    go_simp
    exact hI.put (d := 6) (by decide) (by simp)
  · intro a w hI
    have hI : SR _ _ _ _ a w := hI
    have hw : w = W := hI.wp
    subst hw
    exact hQ a hI
set_option maxRecDepth 100000 in
set_option maxHeartbeats 4000000 in
theorem kd3 (n : Nat) (W : World) (r o : Nat) (A : Nat → Int) (hld : (Instr.loadAt 43 (.pointer (some ⟨r, 0, none⟩))).run Try.prog W = .ok (aggA A) W) (Q : Exit → Act → World → Prop) (a : Act) (h0 : SR [(0, .pointer (some ⟨r, 0, none⟩)), (2, .pointer (some ⟨o, 0, none⟩))] 27 [] W a W)
    (hQ : ∀ a, SR [(2, .pointer (some ⟨o, 0, none⟩)), (11, aggA A), (12, .int .i64 0)] 27 [] (W) a (W) → Q .normal a (W)) : (regOf 3 C14).wpIn Fence.wide n Try.prog Q a W := by
  simp only [regOf, C14, Try.f14, Option.getD, Nat.reduceBEq, Bool.false_eq_true, if_true, if_false]
  refine region_sq (fun k_ a w => match k_ with | 0 => SR [(0, .pointer (some ⟨r, 0, none⟩)), (2, .pointer (some ⟨o, 0, none⟩))] 27 [] (W) a w | 1 => SR [(2, .pointer (some ⟨o, 0, none⟩)), (8, .pointer (some ⟨r, 0, none⟩))] 27 [] (W) a w | 2 => SR [(2, .pointer (some ⟨o, 0, none⟩)), (9, .pointer (some ⟨r, 0, none⟩))] 27 [] (W) a w | 3 => SR [(2, .pointer (some ⟨o, 0, none⟩)), (10, .pointer (some ⟨r, 0, none⟩))] 27 [] (W) a w | 4 => SR [(2, .pointer (some ⟨o, 0, none⟩)), (11, aggA A)] 27 [] (W) a w | _ => SR [(2, .pointer (some ⟨o, 0, none⟩)), (11, aggA A), (12, .int .i64 0)] 27 [] (W) a w) (show SR _ _ _ _ a W from h0) ⟨?_, ?_, ?_, ?_, ?_, trivial⟩ ?_
  · intro a w hI
    have hI : SR _ _ _ _ a w := hI
    have e0 := hI.g 0 rfl
    have hw : w = W := hI.wp
    subst hw
    go_simp
    exact hI.put (d := 8) (by decide) (by simp)
  · intro a w hI
    have hI : SR _ _ _ _ a w := hI
    have e8 := hI.g 8 rfl
    have hw : w = W := hI.wp
    subst hw
    go_simp
    exact hI.put (d := 9) (by decide) (by simp)
  · intro a w hI
    have hI : SR _ _ _ _ a w := hI
    have e9 := hI.g 9 rfl
    have hw : w = W := hI.wp
    subst hw
    go_simp
    exact hI.put (d := 10) (by decide) (by simp)
  · intro a w hI
    have hI : SR _ _ _ _ a w := hI
    have e10 := hI.g 10 rfl
    have hw : w = W := hI.wp
    subst hw
    rw [if_pos (by simp [Region.wanted])]
    refine operIn_load (.tmp 10) 43 rfl (aggA A) (by rw [eval_tmp, e10]; exact hld) ?_
    exact hI.put (d := 11) (by decide) (by simp)
  · intro a w hI
    have hI : SR _ _ _ _ a w := hI
    have hw : w = W := hI.wp
    subst hw
    go_simp
    exact hI.put (d := 12) (by decide) (by simp)
  · intro a w hI
    have hI : SR _ _ _ _ a w := hI
    have hw : w = W := hI.wp
    subst hw
    exact hQ a hI
set_option maxRecDepth 100000 in
set_option maxHeartbeats 4000000 in
theorem kd4 (n : Nat) (W : World) (o i : Nat) (A : Nat → Int)  (Q : Exit → Act → World → Prop) (a : Act) (h0 : SR [(2, .pointer (some ⟨o, 0, none⟩)), (11, aggA A), (12, .int .i64 i)] 27 [] W a W)
    (hQ : ∀ a, SR [(2, .pointer (some ⟨o, 0, none⟩)), (11, aggA A), (12, .int .i64 i), (13, .bool (decide ((i : Int) < 4096)))] 27 [] (W) a (W) → Q .normal a (W)) : (regOf 4 C14).wpIn Fence.wide n Try.prog Q a W := by
  simp only [regOf, C14, Try.f14, Option.getD, Nat.reduceBEq, Bool.false_eq_true, if_true, if_false]
  refine region_sq (fun k_ a w => match k_ with | 0 => SR [(2, .pointer (some ⟨o, 0, none⟩)), (11, aggA A), (12, .int .i64 i)] 27 [] (W) a w | _ => SR [(2, .pointer (some ⟨o, 0, none⟩)), (11, aggA A), (12, .int .i64 i), (13, .bool (decide ((i : Int) < 4096)))] 27 [] (W) a w) (show SR _ _ _ _ a W from h0) ⟨?_, trivial⟩ ?_
  · intro a w hI
    have hI : SR _ _ _ _ a w := hI
    have e12 := hI.g 12 rfl
    have hw : w = W := hI.wp
    subst hw
    go_simp
    exact hI.put (d := 13) (by decide) (by simp)
  · intro a w hI
    have hI : SR _ _ _ _ a w := hI
    have hw : w = W := hI.wp
    subst hw
    exact hQ a hI
set_option maxRecDepth 100000 in
set_option maxHeartbeats 4000000 in
theorem kd5 (n : Nat) (W : World) (o i : Nat) (A : Nat → Int) (hix : ∀ w, (Instr.index 43 (aggA A) (.int .i64 i)).run Try.prog w = .ok (.agg #[.int .u8 (A (i * 2)), .int .u8 (A (i * 2 + 1))]) w) (Q : Exit → Act → World → Prop) (a : Act) (h0 : SR [(2, .pointer (some ⟨o, 0, none⟩)), (11, aggA A), (12, .int .i64 i)] 27 [] W a W)
    (hQ : ∀ a, SR [(2, .pointer (some ⟨o, 0, none⟩)), (11, aggA A), (12, .int .i64 i), (4, .pointer (some ⟨W.heap.size, 0, none⟩))] 27 [] (W.alloc (.cells #[.int .u8 (A (i * 2)), .int .u8 (A (i * 2 + 1))] 25)) a (W.alloc (.cells #[.int .u8 (A (i * 2)), .int .u8 (A (i * 2 + 1))] 25)) → Q .normal a (W.alloc (.cells #[.int .u8 (A (i * 2)), .int .u8 (A (i * 2 + 1))] 25))) : (regOf 5 C14).wpIn Fence.wide n Try.prog Q a W := by
  simp only [regOf, C14, Try.f14, Option.getD, Nat.reduceBEq, Bool.false_eq_true, if_true, if_false]
  refine region_sq (fun k_ a w => match k_ with | 0 => SR [(2, .pointer (some ⟨o, 0, none⟩)), (11, aggA A), (12, .int .i64 i)] 27 [] (W) a w | 1 => SR [(2, .pointer (some ⟨o, 0, none⟩)), (11, aggA A), (12, .int .i64 i), (14, .agg #[.int .u8 (A (i * 2)), .int .u8 (A (i * 2 + 1))])] 27 [] (W) a w | 2 => SR [(2, .pointer (some ⟨o, 0, none⟩)), (11, aggA A), (12, .int .i64 i), (14, .agg #[.int .u8 (A (i * 2)), .int .u8 (A (i * 2 + 1))]), (4, .pointer (some ⟨W.heap.size, 0, none⟩))] 27 [] (W.alloc (.cells #[.int .u8 0, .int .u8 0] 25)) a w | _ => SR [(2, .pointer (some ⟨o, 0, none⟩)), (11, aggA A), (12, .int .i64 i), (4, .pointer (some ⟨W.heap.size, 0, none⟩))] 27 [] (W.alloc (.cells #[.int .u8 (A (i * 2)), .int .u8 (A (i * 2 + 1))] 25)) a w) (show SR _ _ _ _ a W from h0) ⟨?_, ?_, ?_, trivial⟩ ?_
  · intro a w hI
    have hI : SR _ _ _ _ a w := hI
    have e11 := hI.g 11 rfl
    have e12 := hI.g 12 rfl
    have hw : w = W := hI.wp
    subst hw
    rw [if_pos (by simp [Region.wanted])]
    refine operIn_index (.tmp 11) (.tmp 12) 43 rfl _ (by rw [eval_tmp, eval_tmp, e11, e12]; exact hix w) ?_
    exact hI.put (d := 14) (by decide) (by simp)
  · intro a w hI
    have hI : SR _ _ _ _ a w := hI
    have hw : w = W := hI.wp
    subst hw
    go_simp
    exact hI.put (d := 4) (by decide) (by simp)
  · intro a w hI
    have hI : SR _ _ _ _ a w := hI
    have e4 := hI.g 4 rfl
    have e14 := hI.g 14 rfl
    obtain rfl := hI.wp
    go_simp
    exact SR.sub (kn' := [(2, .pointer (some ⟨o, 0, none⟩)), (11, aggA A), (12, .int .i64 i), (4, .pointer (some ⟨W.heap.size, 0, none⟩))]) hI.none (by intro p hp; simp only [List.mem_cons, List.not_mem_nil, or_false] at hp ⊢; rcases hp with h | h | h | h <;> simp [h])
  · intro a w hI
    have hI : SR _ _ _ _ a w := hI
    obtain rfl := hI.wp
    exact hQ a hI
set_option maxRecDepth 100000 in
set_option maxHeartbeats 4000000 in
theorem kd6 (n : Nat) (W : World) (o i q k : Nat) (A : Nat → Int) (hk : k < 256)  (c0 : W.cell? ⟨q, 0, none⟩ = some (.int .u8 k)) (Q : Exit → Act → World → Prop) (a : Act) (h0 : SR [(2, .pointer (some ⟨o, 0, none⟩)), (11, aggA A), (12, .int .i64 i), (4, .pointer (some ⟨q, 0, none⟩))] 27 [] W a W)
    (hQ : ∀ a, SR [(2, .pointer (some ⟨o, 0, none⟩)), (11, aggA A), (12, .int .i64 i), (4, .pointer (some ⟨q, 0, none⟩)), (18, .bool (decide ((k : Int) < 15)))] 27 [] (W) a (W) → Q .normal a (W)) : (regOf 6 C14).wpIn Fence.wide n Try.prog Q a W := by
  simp only [regOf, C14, Try.f14, Option.getD, Nat.reduceBEq, Bool.false_eq_true, if_true, if_false]
  refine region_sq (fun k_ a w => match k_ with | 0 => SR [(2, .pointer (some ⟨o, 0, none⟩)), (11, aggA A), (12, .int .i64 i), (4, .pointer (some ⟨q, 0, none⟩))] 27 [] (W) a w | 1 => SR [(2, .pointer (some ⟨o, 0, none⟩)), (11, aggA A), (12, .int .i64 i), (4, .pointer (some ⟨q, 0, none⟩)), (15, .pointer (some ⟨q, 0, none⟩))] 27 [] (W) a w | 2 => SR [(2, .pointer (some ⟨o, 0, none⟩)), (11, aggA A), (12, .int .i64 i), (4, .pointer (some ⟨q, 0, none⟩)), (16, .int .u8 k)] 27 [] (W) a w | 3 => SR [(2, .pointer (some ⟨o, 0, none⟩)), (11, aggA A), (12, .int .i64 i), (4, .pointer (some ⟨q, 0, none⟩)), (17, .int .i64 k)] 27 [] (W) a w | _ => SR [(2, .pointer (some ⟨o, 0, none⟩)), (11, aggA A), (12, .int .i64 i), (4, .pointer (some ⟨q, 0, none⟩)), (18, .bool (decide ((k : Int) < 15)))] 27 [] (W) a w) (show SR _ _ _ _ a W from h0) ⟨?_, ?_, ?_, ?_, trivial⟩ ?_
  · intro a w hI
    have hI : SR _ _ _ _ a w := hI
    have e4 := hI.g 4 rfl
    have hw : w = W := hI.wp
    subst hw
    go_simp
    exact hI.put (d := 15) (by decide) (by simp)
  · intro a w hI
    have hI : SR _ _ _ _ a w := hI
    have e15 := hI.g 15 rfl
    have hw : w = W := hI.wp
    subst hw
    go_simp
    exact hI.put (d := 16) (by decide) (by simp)
  · intro a w hI
    have hI : SR _ _ _ _ a w := hI
    have e16 := hI.g 16 rfl
    have hw : w = W := hI.wp
    subst hw
    have hw2 : IntKind.i64.wrap (k : Int) = (k : Int) := IntWalk.i64_in _ (by omega)
    go_simp
    exact hI.put (d := 17) (by decide) (by simp)
  · intro a w hI
    have hI : SR _ _ _ _ a w := hI
    have e17 := hI.g 17 rfl
    have hw : w = W := hI.wp
    subst hw
    go_simp
    exact hI.put (d := 18) (by decide) (by simp)
  · intro a w hI
    have hI : SR _ _ _ _ a w := hI
    have hw : w = W := hI.wp
    subst hw
    exact hQ a hI
set_option maxRecDepth 100000 in
set_option maxHeartbeats 4000000 in
theorem kd7 (n : Nat) (W : World) (o i q k : Nat) (A : Nat → Int) (hk : k < 256) (c : Nat) (hc : c < 5000) (hk2 : k < 15) (fw : W.frozen? ⟨o, k, none⟩ = false) (cw : W.cell? ⟨o, k, none⟩ = some (.int .i64 c))  (c0 : W.cell? ⟨q, 0, none⟩ = some (.int .u8 k)) (c1 : W.cell? ⟨o, k, none⟩ = some (.int .i64 c)) (Q : Exit → Act → World → Prop) (a : Act) (h0 : SR [(2, .pointer (some ⟨o, 0, none⟩)), (11, aggA A), (12, .int .i64 i), (4, .pointer (some ⟨q, 0, none⟩))] 27 [] W a W)
    (hQ : ∀ a, SR [(2, .pointer (some ⟨o, 0, none⟩)), (11, aggA A), (12, .int .i64 i)] 27 [] (W.setCell ⟨o, k, none⟩ (.int .i64 ((c : Int) + 1))) a (W.setCell ⟨o, k, none⟩ (.int .i64 ((c : Int) + 1))) → Q .normal a (W.setCell ⟨o, k, none⟩ (.int .i64 ((c : Int) + 1)))) : (regOf 7 C14).wpIn Fence.wide n Try.prog Q a W := by
  simp only [regOf, C14, Try.f14, Option.getD, Nat.reduceBEq, Bool.false_eq_true, if_true, if_false]
  refine region_sq (fun k_ a w => match k_ with | 0 => SR [(2, .pointer (some ⟨o, 0, none⟩)), (11, aggA A), (12, .int .i64 i), (4, .pointer (some ⟨q, 0, none⟩))] 27 [] (W) a w | 1 => SR [(2, .pointer (some ⟨o, 0, none⟩)), (11, aggA A), (12, .int .i64 i), (19, .pointer (some ⟨q, 0, none⟩))] 27 [] (W) a w | 2 => SR [(2, .pointer (some ⟨o, 0, none⟩)), (11, aggA A), (12, .int .i64 i), (20, .int .u8 k)] 27 [] (W) a w | 3 => SR [(2, .pointer (some ⟨o, 0, none⟩)), (11, aggA A), (12, .int .i64 i), (20, .int .u8 k), (21, .pointer (some ⟨o, k, none⟩))] 27 [] (W) a w | 4 => SR [(2, .pointer (some ⟨o, 0, none⟩)), (11, aggA A), (12, .int .i64 i), (20, .int .u8 k), (22, .int .i64 c)] 27 [] (W) a w | 5 => SR [(2, .pointer (some ⟨o, 0, none⟩)), (11, aggA A), (12, .int .i64 i), (20, .int .u8 k), (23, .int .i64 ((c : Int) + 1))] 27 [] (W) a w | 6 => SR [(2, .pointer (some ⟨o, 0, none⟩)), (11, aggA A), (12, .int .i64 i), (23, .int .i64 ((c : Int) + 1)), (24, .pointer (some ⟨o, k, none⟩))] 27 [] (W) a w | _ => SR [(2, .pointer (some ⟨o, 0, none⟩)), (11, aggA A), (12, .int .i64 i)] 27 [] (W.setCell ⟨o, k, none⟩ (.int .i64 ((c : Int) + 1))) a w) (show SR _ _ _ _ a W from h0) ⟨?_, ?_, ?_, ?_, ?_, ?_, ?_, trivial⟩ ?_
  · intro a w hI
    have hI : SR _ _ _ _ a w := hI
    have e4 := hI.g 4 rfl
    have hw : w = W := hI.wp
    subst hw
    go_simp
    exact hI.put (d := 19) (by decide) (by simp)
  · intro a w hI
    have hI : SR _ _ _ _ a w := hI
    have e19 := hI.g 19 rfl
    have hw : w = W := hI.wp
    subst hw
    go_simp
    exact hI.put (d := 20) (by decide) (by simp)
  · intro a w hI
    have hI : SR _ _ _ _ a w := hI
    have e2 := hI.g 2 rfl
    have e20 := hI.g 20 rfl
    have hw : w = W := hI.wp
    subst hw
    have q1_2 : (0 : Int) ≤ k := by omega
    have q2_2 : (k : Int) < 15 := by omega
    go_simp
    exact hI.put (d := 21) (by decide) (by simp)
  · intro a w hI
    have hI : SR _ _ _ _ a w := hI
    have e21 := hI.g 21 rfl
    have hw : w = W := hI.wp
    subst hw
    go_simp
    exact hI.put (d := 22) (by decide) (by simp)
  · intro a w hI
    have hI : SR _ _ _ _ a w := hI
    have e22 := hI.g 22 rfl
    have hw : w = W := hI.wp
    subst hw
    have hw4 : IntKind.i64.wrap ((c : Int) + 1) = (c : Int) + 1 := IntWalk.i64_in _ (by omega)
    go_simp
    exact hI.put (d := 23) (by decide) (by simp)
  · intro a w hI
    have hI : SR _ _ _ _ a w := hI
    have e2 := hI.g 2 rfl
    have e20 := hI.g 20 rfl
    have hw : w = W := hI.wp
    subst hw
    have q1_5 : (0 : Int) ≤ k := by omega
    have q2_5 : (k : Int) < 15 := by omega
    go_simp
    exact hI.put (d := 24) (by decide) (by simp)
  · intro a w hI
    have hI : SR _ _ _ _ a w := hI
    have e24 := hI.g 24 rfl
    have e23 := hI.g 23 rfl
    have hw : w = W := hI.wp
    subst hw
    go_simp
    exact SR.sub (kn' := [(2, .pointer (some ⟨o, 0, none⟩)), (11, aggA A), (12, .int .i64 i)]) hI.none (by intro p hp; simp only [List.mem_cons, List.not_mem_nil, or_false] at hp ⊢; rcases hp with h | h | h <;> simp [h])
  · intro a w hI
    have hI : SR _ _ _ _ a w := hI
    obtain rfl := hI.wp
    exact hQ a hI
set_option maxRecDepth 100000 in
set_option maxHeartbeats 4000000 in
theorem kd8 (n : Nat) (W : World) (o i : Nat) (A : Nat → Int) (hi : i < 4096) (Q : Exit → Act → World → Prop) (a : Act) (h0 : SR [(2, .pointer (some ⟨o, 0, none⟩)), (11, aggA A), (12, .int .i64 i)] 27 [] W a W)
    (hQ : ∀ a, SR [(2, .pointer (some ⟨o, 0, none⟩)), (11, aggA A), (12, .int .i64 ((i : Int) + 1))] 27 [] (W) a (W) → Q .normal a (W)) : (regOf 8 C14).wpIn Fence.wide n Try.prog Q a W := by
  simp only [regOf, C14, Try.f14, Option.getD, Nat.reduceBEq, Bool.false_eq_true, if_true, if_false]
  refine region_sq (fun k_ a w => match k_ with | 0 => SR [(2, .pointer (some ⟨o, 0, none⟩)), (11, aggA A), (12, .int .i64 i)] 27 [] (W) a w | 1 => SR [(2, .pointer (some ⟨o, 0, none⟩)), (11, aggA A), (25, .int .i64 ((i : Int) + 1))] 27 [] (W) a w | _ => SR [(2, .pointer (some ⟨o, 0, none⟩)), (11, aggA A), (12, .int .i64 ((i : Int) + 1))] 27 [] (W) a w) (show SR _ _ _ _ a W from h0) ⟨?_, ?_, trivial⟩ ?_
  · intro a w hI
    have hI : SR _ _ _ _ a w := hI
    have e12 := hI.g 12 rfl
    have hw : w = W := hI.wp
    subst hw
    have hw0 : IntKind.i64.wrap ((i : Int) + 1) = (i : Int) + 1 := IntWalk.i64_in _ (by omega)
    go_simp
    exact hI.put (d := 25) (by decide) (by simp)
  · intro a w hI
    have hI : SR _ _ _ _ a w := hI
    have e25 := hI.g 25 rfl
    have hw : w = W := hI.wp
    subst hw
    go_simp
    exact hI.put (d := 12) (by decide) (by simp)
  · intro a w hI
    have hI : SR _ _ _ _ a w := hI
    have hw : w = W := hI.wp
    subst hw
    exact hQ a hI
set_option maxRecDepth 100000 in
set_option maxHeartbeats 4000000 in
theorem kd2 (n : Nat) (W : World) (o : Nat) (cur : Array Value) (hl : (Instr.loadAt 39 (.pointer (some ⟨o, 0, none⟩))).run Try.prog W = .ok (.agg cur) W) (hs : (Instr.storeAt 39 (.pointer (some ⟨o, 0, none⟩)) (.agg cur)).run Try.prog W = .ok () W) (Q : Exit → Act → World → Prop) (a : Act) (h0 : SR [(2, .pointer (some ⟨o, 0, none⟩))] 27 [] W a W)
    (hQ : ∀ a, SR [(2, .pointer (some ⟨o, 0, none⟩))] 27 [] (W) a (W) → Q .normal a (W)) : (regOf 2 C14).wpIn Fence.wide n Try.prog Q a W := by
  simp only [regOf, C14, Try.f14, Option.getD, Nat.reduceBEq, Bool.false_eq_true, if_true, if_false]
  refine region_sq (fun k_ a w => match k_ with | 0 => SR [(2, .pointer (some ⟨o, 0, none⟩))] 27 [] (W) a w | 1 => SR [(2, .pointer (some ⟨o, 0, none⟩)), (7, .agg cur)] 27 [] (W) a w | _ => SR [(2, .pointer (some ⟨o, 0, none⟩))] 27 [] (W) a w) (show SR _ _ _ _ a W from h0) ⟨?_, ?_, trivial⟩ ?_
  · intro a w hI
    have hI : SR _ _ _ _ a w := hI
    have e2 := hI.g 2 rfl
    have hw : w = W := hI.wp
    subst hw
    rw [if_pos (by simp [Region.wanted])]
    refine operIn_load (.tmp 2) 39 rfl (.agg cur) (by rw [eval_tmp, e2]; exact hl) ?_
    exact hI.put (d := 7) (by decide) (by simp)
  · intro a w hI
    have hI : SR _ _ _ _ a w := hI
    have e2 := hI.g 2 rfl
    have e7 := hI.g 7 rfl
    have hw : w = W := hI.wp
    subst hw
    rw [if_pos (by simp [Region.wanted])]
    refine operIn_store (.tmp 2) (.tmp 7) 39 rfl rfl (by rw [eval_tmp, eval_tmp, e2, e7]; exact hs) ?_
    exact SR.sub (kn' := [(2, .pointer (some ⟨o, 0, none⟩))]) hI.none (by intro p hp; simp only [List.mem_cons, List.not_mem_nil, or_false] at hp ⊢; simp [hp])
  · intro a w hI
    have hI : SR _ _ _ _ a w := hI
    have hw : w = W := hI.wp
    subst hw
    exact hQ a hI
set_option maxRecDepth 100000 in
set_option maxHeartbeats 4000000 in
theorem kd9 (n : Nat) (W : World) (o : Nat) (cur : Array Value) (hl : (Instr.loadAt 39 (.pointer (some ⟨o, 0, none⟩))).run Try.prog W = .ok (.agg cur) W) (hs : (Instr.storeAt 39 (.pointer (some ⟨o, 0, none⟩)) (.agg cur)).run Try.prog W = .ok () W) (Q : Exit → Act → World → Prop) (a : Act) (h0 : SR [(2, .pointer (some ⟨o, 0, none⟩))] 27 [] W a W)
    (hQ : ∀ a, SR [(2, .pointer (some ⟨o, 0, none⟩))] 27 [] (W) a (W) → Q .normal a (W)) : (regOf 9 C14).wpIn Fence.wide n Try.prog Q a W := by
  simp only [regOf, C14, Try.f14, Option.getD, Nat.reduceBEq, Bool.false_eq_true, if_true, if_false]
  refine region_sq (fun k_ a w => match k_ with | 0 => SR [(2, .pointer (some ⟨o, 0, none⟩))] 27 [] (W) a w | 1 => SR [(2, .pointer (some ⟨o, 0, none⟩)), (26, .agg cur)] 27 [] (W) a w | _ => SR [(2, .pointer (some ⟨o, 0, none⟩))] 27 [] (W) a w) (show SR _ _ _ _ a W from h0) ⟨?_, ?_, trivial⟩ ?_
  · intro a w hI
    have hI : SR _ _ _ _ a w := hI
    have e2 := hI.g 2 rfl
    have hw : w = W := hI.wp
    subst hw
    rw [if_pos (by simp [Region.wanted])]
    refine operIn_load (.tmp 2) 39 rfl (.agg cur) (by rw [eval_tmp, e2]; exact hl) ?_
    exact hI.put (d := 26) (by decide) (by simp)
  · intro a w hI
    have hI : SR _ _ _ _ a w := hI
    have e2 := hI.g 2 rfl
    have e26 := hI.g 26 rfl
    have hw : w = W := hI.wp
    subst hw
    rw [if_pos (by simp [Region.wanted])]
    refine operIn_store (.tmp 2) (.tmp 26) 39 rfl rfl (by rw [eval_tmp, eval_tmp, e2, e26]; exact hs) ?_
    exact SR.sub (kn' := [(2, .pointer (some ⟨o, 0, none⟩))]) hI.none (by intro p hp; simp only [List.mem_cons, List.not_mem_nil, or_false] at hp ⊢; simp [hp])
  · intro a w hI
    have hI : SR _ _ _ _ a w := hI
    have hw : w = W := hI.wp
    subst hw
    exact hQ a hI
/-! ### How many of a chunk's cells are movable -/
open Pf (cellK cellL mayS spotV I64 U8 Gives movR)
def cntM (A : Nat → Int) : Nat → Nat
  | 0 => 0
  | i + 1 => cntM A i + if Sx.phiB1 1 (A (i * 2)) = true then 1 else 0
theorem cntM_le (A : Nat → Int) : ∀ i, cntM A i ≤ i
  | 0 => Nat.le_refl _
  | i + 1 => by have := cntM_le A i; unfold cntM; split <;> omega
theorem cntM_block (A : Nat → Int) (b : Nat) (c : Bool) (h : ∀ j, j < 256 → Sx.phiB1 1 (A ((256 * b + j) * 2)) = c) : ∀ k, k ≤ 256 → cntM A (256 * b + k) = cntM A (256 * b) + if c = true then k else 0
  | 0, _ => by simp
  | k + 1, hk => by
    have ih := cntM_block A b c h k (by omega)
    rw [show 256 * b + (k + 1) = 256 * b + k + 1 from by omega]
    show cntM A (256 * b + k) + _ = _
    rw [ih, h k (by omega)]
    cases c with
    | false => simp
    | true => simp only [if_true]; omega
def sumK (y : Int) : Nat → Nat
  | 0 => 0
  | b + 1 => sumK y b + if Sx.phiB1 1 (cellK (y * 16 + (b : Nat))) = true then 256 else 0
theorem cntM_sum (y : Int) : ∀ b, cntM (landA y) (256 * b) = sumK y b
  | 0 => rfl
  | b + 1 => by
    have h := cntM_block (landA y) b (Sx.phiB1 1 (cellK (y * 16 + (b : Nat)))) (fun j hj => by
      rw [landA_k, show ((256 * b + j : Nat) : Int) / 256 = (b : Nat) by omega]) 256 (by omega)
    rw [show 256 * (b + 1) = 256 * b + 256 from by omega, h, cntM_sum y b]
    rfl
theorem sumK_pos {y : Int} (h : 0 < y) : ∀ b, sumK y b = 0
  | 0 => rfl
  | b + 1 => by
    unfold sumK
    rw [sumK_pos h b]
    have : cellK (y * 16 + (b : Nat)) = 0 := by unfold cellK; rw [if_neg (by simp; omega), if_pos (by rw [decide_eq_true_eq]; omega)]
    rw [this]; rfl
theorem sumK_0 : sumK 0 16 = 3840 := by decide +kernel
theorem cntM_land {y : Int} (h : 0 ≤ y) : cntM (landA y) 4096 = if 0 < y then 0 else 3840 := by
  have := cntM_sum y 16
  rw [show 256 * 16 = 4096 from rfl] at this
  rw [this]
  split
  · rename_i h1; exact sumK_pos h1 16
  · rename_i h1
    obtain rfl : y = 0 := by omega
    exact sumK_0
def Byt (A : Nat → Int) : Prop := ∀ j, U8 (A j)
theorem byt_zero : Byt fun _ => 0 := fun _ => ⟨by show (0 : Int) ≤ 0; omega, by show (0 : Int) ≤ 255; omega⟩
theorem byt_landA (y : Int) : Byt (landA y) := fun j => by
  unfold landA U8 cellK
  split
  · omega
  · split
    · omega
    · split
      · omega
      · split <;> omega
theorem C30_eq : C30 = .seq (regOf 0 C30) (.seq (.seq (regOf 1 C30) (.cond (.tmp 5) (.seq (regOf 2 C30) .ret) .skip)) (.seq (.seq (regOf 3 C30) (.block 0 (.loop (.seq (regOf 4 C30) (.seq (.cond (.tmp 7) .skip (.exit 0)) (.seq (.block 1 (.seq (regOf 5 C30) (.seq (regOf 6 C30) (.cond (.tmp 16) (regOf 7 C30) .skip)))) (regOf 8 C30))))))) (.seq (regOf 9 C30) .ret))) := by kernel_rfl
set_option maxHeartbeats 1000000 in
theorem mov_in {r : Nat} {A B : Nat → Int} (hA : Byt A) (n : Nat) (w : World) (hr : CkW w r A B) : CallsIn Fence.wide n Try.prog 30 #[ptr r] w fun e w' => e = .returned (.int .i64 (cntM A 4096 : Nat)) ∧ Below w.heap.size w w' := by
  refine callsIn_of_wp Try.func30 rfl trivial ?_
  show C30.wpIn _ _ _ _ _ _
  rw [C30_eq]
  refine wpIn_seq (mv0p n w r _ _ ⟨by simp [Try.ntmps30], rfl, by simp [Try.ntmps30], rfl⟩ ?_)
  intro a1 h1
  refine wpIn_seq (wpIn_seq (mv1p n w r _ a1 h1 ?_))
  intro a2 h2
  refine wpIn_cond (t := false) (by rw [eval_tmp]; exact h2.g 5 rfl) (wpIn_skip ?_)
  refine wpIn_seq (wpIn_seq (mv3 n w r 0 _ a2 (h2.sub (by simp)) ?_))
  intro a3 h3
  refine wpIn_block (wpIn_loop (fun a w' => ∃ i, i ≤ 4096 ∧ SG [(0, ptr r), (2, .int .i64 (cntM A i : Nat)), (6, .int .i64 (i : Nat))] 21 (Below w.heap.size w) a w') (fun a _ => 4096 - slotN 6 a) ⟨0, Nat.zero_le _, h3.sg (Below.refl _ _)⟩ ?_)
  rintro a w4 ⟨i, hi, ha⟩
  have e6 := ha.slot (t := 6) (v := i) (k := .i64) (by simp)
  have hG := ha.wp
  refine wpIn_seq (mv4 n w4 r (cntM A i) i _ a ha.sr ?_)
  intro a5 h5
  have hle := cntM_le A i
  by_cases hlt : i < 4096
  · refine wpIn_seq (wpIn_cond (t := true) (by rw [eval_tmp, h5.g 7 rfl, decide_eq_true (by omega)]) (wpIn_skip (wpIn_seq (wpIn_block ?_))))
    refine wpIn_seq (mv5 n w4 r (cntM A i) i _ a5 (h5.sub (by simp)) ?_)
    intro a6 h6
    refine wpIn_seq (mv6 n belS r (cntM A i) i _ _ hlt (fun w' hw => (hr.below hw).cell (by omega)) (fun m w' _ => Pf.c15 (hA _) m w') _ a6 w4 (h6.sg hG) ?_)
    intro a7 w7 h7
    have hG7 := h7.wp
    cases hb : Sx.phiB1 1 (A (i * 2)) with
    | true =>
      have ec : cntM A (i + 1) = cntM A i + 1 := by show cntM A i + _ = _; rw [if_pos hb]
      rw [hb] at h7
      refine wpIn_cond (t := true) (by rw [eval_tmp]; exact h7.g 16 rfl) ?_
      refine mv7 n w7 r (cntM A i) i (by omega) _ a7 (h7.sub (by simp)).sr ?_
      intro a8 h8
      show (regOf 8 C30).wpIn _ _ _ _ _ _
      refine mv8 n w7 r (cntM A i + 1) i hlt _ a8 h8 ?_
      intro a9 h9
      rw [← ec] at h9
      have h9 : SG [(0, ptr r), (2, .int .i64 (cntM A (i + 1) : Nat)), (6, .int .i64 (i + 1 : Nat))] 21 (Below w.heap.size w) a9 w7 := h9.sg hG7
      exact ⟨⟨i + 1, hlt, h9⟩, by rw [e6, h9.slot (t := 6) (v := i + 1) (k := .i64) (by simp)]; omega⟩
    | false =>
      have ec : cntM A (i + 1) = cntM A i := by show cntM A i + _ = _; rw [if_neg (by simp [hb])]; rfl
      rw [hb] at h7
      refine wpIn_cond (t := false) (by rw [eval_tmp]; exact h7.g 16 rfl) (wpIn_skip ?_)
      show (regOf 8 C30).wpIn _ _ _ _ _ _
      refine mv8 n w7 r (cntM A i) i hlt _ a7 (h7.sub (by simp)).sr ?_
      intro a9 h9
      rw [← ec] at h9
      have h9 : SG [(0, ptr r), (2, .int .i64 (cntM A (i + 1) : Nat)), (6, .int .i64 (i + 1 : Nat))] 21 (Below w.heap.size w) a9 w7 := h9.sg hG7
      exact ⟨⟨i + 1, hlt, h9⟩, by rw [e6, h9.slot (t := 6) (v := i + 1) (k := .i64) (by simp)]; omega⟩
  · refine wpIn_seq (wpIn_cond (t := false) (by rw [eval_tmp, h5.g 7 rfl, decide_eq_false (by omega)]) (wpIn_exit ?_))
    obtain rfl : i = 4096 := by omega
    show (Code.seq (regOf 9 C30) .ret).wpIn _ _ _ _ _ _
    refine wpIn_seq (mv9 n w4 (cntM A 4096) _ a5 (h5.sub (by simp)) ?_)
    intro a6 h6
    exact wpIn_ret ⟨h6.defers, _, results_tmp (t := 2) rfl _ _ _, by rw [Array.getD_eq_getD_getElem?, h6.g 2 rfl], hG⟩
/-! ### .. of the land -/
def lmv (x y z : Int) : Int := if mayS x y z = true then (cntM (landA y) 4096 : Nat) else 0
theorem lmv_eq (x y z : Int) : lmv x y z = movR x y z := by
  unfold lmv movR
  cases h : mayS x y z with
  | false => rfl
  | true =>
    have := (mayS_y h).1
    rw [if_pos rfl, cntM_land this]
    by_cases h0 : 0 < y
    · rw [if_pos h0, decide_eq_true h0]; rfl
    · rw [if_neg h0, decide_eq_false h0]; rfl
theorem movR_bd (x y z : Int) : 0 ≤ movR x y z ∧ movR x y z ≤ 4096 := by unfold movR; split <;> omega
theorem C16_eq : C16 = .seq (regOf 0 C16) (.seq (regOf 1 C16) (.seq (.seq (regOf 2 C16) (.cond (.tmp 11) (.seq (regOf 3 C16) .ret) .skip)) (.seq (regOf 4 C16) .ret))) := by kernel_rfl
section
variable {x y z : Int}
theorem lmv_in (hx : I64 x) (hy : I64 y) (hz : I64 z) (n : Nat) (w : World) : CallsIn Fence.wide n Try.prog 16 #[spotV x y z] w fun e w' => e = .returned (.int .i64 (movR x y z)) ∧ Below w.heap.size w w' := by
  rw [← lmv_eq]
  refine callsIn_of_wp Try.func16 rfl trivial ?_
  show C16.wpIn _ _ _ _ _ _
  rw [C16_eq]
  refine wpIn_seq (lm0 n w x y z _ _ ⟨by simp [Try.ntmps16], rfl, by simp [Try.ntmps16], rfl⟩ ?_)
  intro a1 h1
  have hH := (Has.start w).alloc (.cells #[.int .i64 x, .int .i64 y, .int .i64 z] 33)
  obtain ⟨bx, hbx⟩ : ∃ bx, bx = w.heap.size := ⟨_, rfl⟩
  rw [← hbx] at h1 hH
  cases hm : mayS x y z with
  | false =>
    have el : lmv x y z = 0 := by unfold lmv; rw [hm]; rfl
    refine wpIn_seq (lm1n n (Has.stable _ _) bx x y z (fun w hw => hw.cell0 rfl) (fun w hw => hw.cell0 rfl) (fun w hw => hw.cell0 rfl) (fun m w _ => land_not m w hx hy hz hm) _ a1 _ (h1.sg hH) ?_)
    intro a2 w2 h2
    refine wpIn_seq (wpIn_seq (lm2n n w2 _ a2 h2.sr ?_))
    intro a3 h3
    refine wpIn_cond (t := true) (by rw [eval_tmp]; exact h3.g 11 rfl) (wpIn_seq ?_)
    refine lm3 n w2 _ a3 (h3.sub (by simp)) ?_
    intro a4 h4
    exact wpIn_ret ⟨h4.defers, _, results_tmp (t := 2) rfl _ _ _, by rw [Array.getD_eq_getD_getElem?, h4.g 2 rfl, el], h2.wp.bel⟩
  | true =>
    have el : lmv x y z = (cntM (landA y) 4096 : Nat) := by unfold lmv; rw [hm]; rfl
    refine wpIn_seq (lm1p n bx x y z (fun r w' => Below w.heap.size w w' ∧ CkW w' r (landA y) (landB y)) (fun w hw => hw.cell0 rfl) (fun w hw => hw.cell0 rfl) (fun w hw => hw.cell0 rfl) (fun m w' hw => (land_may m w' hx hy hz hm).mono ?_) _ a1 _ (h1.sg hH) ?_)
    · rintro e w3 ⟨r, rfl, h3, h4, h5⟩
      exact ⟨r, rfl, (belS _ _ hw.bel h3), h5⟩
    intro r a2 w2 h2
    have hG2 := h2.wp
    refine wpIn_seq (wpIn_seq (lm2p n w2 r _ a2 h2.sr ?_))
    intro a3 h3
    refine wpIn_cond (t := false) (by rw [eval_tmp]; exact h3.g 11 rfl) (wpIn_skip ?_)
    refine wpIn_seq (lm4 n (G := fun w' => Below w.heap.size w w' ∧ CkW w' r (landA y) (landB y)) (belS.and (CkW.stable _ _ _)) r _ (fun m w' hw => mov_in (byt_landA y) m w' hw.2) _ a3 w2 ((h3.sub (by simp)).sg hG2) ?_)
    intro a4 w4 h4
    exact wpIn_ret ⟨h4.defers, _, results_tmp (t := 2) rfl _ _ _, by rw [Array.getD_eq_getD_getElem?, h4.g 2 rfl, el], h4.wp.1⟩
/-! ### How many more -/
theorem C13_eq : C13 = .seq (regOf 0 C13) (.seq (.seq (regOf 1 C13) (.cond (.tmp 9) (.seq (regOf 2 C13) .ret) .skip)) (.seq (.seq (regOf 3 C13) (.seq (regOf 4 C13) (.cond (.tmp 16) (.seq (regOf 5 C13) .ret) .skip))) (.seq (regOf 6 C13) .ret))) := by kernel_rfl
theorem more_nil (n : Nat) (w : World) : CallsIn Fence.wide n Try.prog 13 #[.pointer none, spotV x y z] w fun e w' => e = .returned (.tuple #[.int .i64 0, .int .i64 1]) ∧ Below w.heap.size w w' := by
  refine callsIn_of_wp Try.func13 rfl trivial ?_
  show C13.wpIn _ _ _ _ _ _
  rw [C13_eq]
  refine wpIn_seq (mo0n n w x y z _ _ ⟨by simp [Try.ntmps13], rfl, by simp [Try.ntmps13], rfl⟩ ?_)
  intro a1 h1
  refine wpIn_seq (wpIn_seq (mo1n n _ _ _ a1 h1 ?_))
  intro a2 h2
  refine wpIn_cond (t := true) (by rw [eval_tmp]; exact h2.g 9 rfl) (wpIn_seq ?_)
  refine mo2 n _ _ a2 (h2.sub (by simp)) ?_
  intro a3 h3
  exact wpIn_ret ⟨h3.defers, _, results_tmp2 (t := 4) (u := 5) rfl _ _ _, by rw [Array.getD_eq_getD_getElem?, Array.getD_eq_getD_getElem?, h3.g 4 rfl, h3.g 5 rfl], (Below.refl _ _).alloc (Nat.le_refl _) _⟩
theorem more_not {r : Nat} (hx : I64 x) (hy : I64 y) (hz : I64 z) (hm : mayS x y z = false) (n : Nat) (w : World) : CallsIn Fence.wide n Try.prog 13 #[ptr r, spotV x y z] w fun e w' => e = .returned (.tuple #[.int .i64 0, .int .i64 10]) ∧ Below w.heap.size w w' := by
  refine callsIn_of_wp Try.func13 rfl trivial ?_
  show C13.wpIn _ _ _ _ _ _
  rw [C13_eq]
  refine wpIn_seq (mo0p n w r x y z _ _ ⟨by simp [Try.ntmps13], rfl, by simp [Try.ntmps13], rfl⟩ ?_)
  intro a1 h1
  have hH := (Has.start w).alloc (.cells #[.int .i64 x, .int .i64 y, .int .i64 z] 33)
  obtain ⟨bx, hbx⟩ : ∃ bx, bx = w.heap.size := ⟨_, rfl⟩
  rw [← hbx] at h1 hH
  refine wpIn_seq (wpIn_seq (mo1p n _ r bx _ a1 h1 ?_))
  intro a2 h2
  refine wpIn_cond (t := false) (by rw [eval_tmp]; exact h2.g 9 rfl) (wpIn_skip ?_)
  refine wpIn_seq (wpIn_seq (mo3n n (Has.stable _ _) r bx x y z (fun w hw => hw.cell0 rfl) (fun w hw => hw.cell0 rfl) (fun w hw => hw.cell0 rfl) (fun m w _ => land_not m w hx hy hz hm) _ a2 _ ((h2.sub (by simp)).sg hH) ?_))
  intro a3 w3 h3
  refine wpIn_seq (mo4n n w3 r bx _ a3 h3.sr ?_)
  intro a4 h4
  refine wpIn_cond (t := true) (by rw [eval_tmp]; exact h4.g 16 rfl) (wpIn_seq ?_)
  refine mo5 n w3 _ a4 (h4.sub (by simp)) ?_
  intro a5 h5
  exact wpIn_ret ⟨h5.defers, _, results_tmp2 (t := 4) (u := 5) rfl _ _ _, by rw [Array.getD_eq_getD_getElem?, Array.getD_eq_getD_getElem?, h5.g 4 rfl, h5.g 5 rfl], h3.wp.bel⟩
theorem more_in {r : Nat} {A B : Nat → Int} (hA : Byt A) (hx : I64 x) (hy : I64 y) (hz : I64 z) (hm : mayS x y z = true) (n : Nat) (w : World) (hr : CkW w r A B) : CallsIn Fence.wide n Try.prog 13 #[ptr r, spotV x y z] w fun e w' => e = .returned (.tuple #[.int .i64 ((cntM A 4096 : Nat) - movR x y z), .int .i64 0]) ∧ Below w.heap.size w w' := by
  refine callsIn_of_wp Try.func13 rfl trivial ?_
  show C13.wpIn _ _ _ _ _ _
  rw [C13_eq]
  refine wpIn_seq (mo0p n w r x y z _ _ ⟨by simp [Try.ntmps13], rfl, by simp [Try.ntmps13], rfl⟩ ?_)
  intro a1 h1
  have hH := (Has.start w).alloc (.cells #[.int .i64 x, .int .i64 y, .int .i64 z] 33)
  obtain ⟨bx, hbx⟩ : ∃ bx, bx = w.heap.size := ⟨_, rfl⟩
  rw [← hbx] at h1 hH
  refine wpIn_seq (wpIn_seq (mo1p n _ r bx _ a1 h1 ?_))
  intro a2 h2
  refine wpIn_cond (t := false) (by rw [eval_tmp]; exact h2.g 9 rfl) (wpIn_skip ?_)
  refine wpIn_seq (wpIn_seq (mo3p n r bx x y z (fun _ => Has w [(bx, .cells #[.int .i64 x, .int .i64 y, .int .i64 z] 33 (0, 0))]) (fun w hw => hw.cell0 rfl) (fun w hw => hw.cell0 rfl) (fun w hw => hw.cell0 rfl) (fun m w' hw => (land_may m w' hx hy hz hm).mono ?_) _ a2 _ ((h2.sub (by simp)).sg hH) ?_))
  · rintro e w3 ⟨r2, rfl, h3, _⟩
    exact ⟨r2, rfl, hw.below h3⟩
  intro _ a3 w3 h3
  have hG3 := h3.wp
  refine wpIn_seq (mo4p n w3 r bx _ a3 h3.sr ?_)
  intro a4 h4
  refine wpIn_cond (t := false) (by rw [eval_tmp]; exact h4.g 16 rfl) (wpIn_skip ?_)
  have hc := cntM_le A 4096
  have hb := movR_bd x y z
  refine wpIn_seq (mo6 n (Has.stable _ _) r bx _ _ (Int.natCast_nonneg _) (by omega) hb.1 hb.2 x y z (fun w hw => hw.cell0 rfl) (fun w hw => hw.cell0 rfl) (fun w hw => hw.cell0 rfl) (fun m w' hw => mov_in hA m w' (hr.below hw.bel)) (fun m w' _ => lmv_in hx hy hz m w') _ a4 w3 ((h4.sub (by simp)).sg hG3) ?_)
  intro a5 w5 h5
  exact wpIn_ret ⟨h5.defers, _, results_tmp2 (t := 4) (u := 5) rfl _ _ _, by rw [Array.getD_eq_getD_getElem?, Array.getD_eq_getD_getElem?, h5.g 4 rfl, h5.g 5 rfl], h5.wp.bel⟩
end
end Go.Proofs.Ytigblagodlfedaa
