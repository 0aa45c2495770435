/- Glow: the walk of a law. -/
import Derived.RangeFuncNested
import Derived.RangeFuncBound
import Derived.RangeFuncCalls
import Derived.RangeFuncLeaves
import Derived.Shelf.Abstract
import Derived.Shelf.RegionOpen
import Derived.WalkKit
import Derived.OwnWalkIn
import Derived.TacticsInMore
import Derived.LoopNIn
import Derived.LoopIn
import Derived.Lib.Hide
import Derived.IntWalk
import Derived.Maps.AppendAt
import Derived.Test.YtigblagodlfedaaHand

import Derived.Laws.CopyOwn
import Derived.Test.YtigblagodlfedaaK5
set_option linter.unusedVariables false
set_option linter.unusedSimpArgs false
namespace Go.Proofs.Ytigblagodlfedaa
open Go.RowKit Go.Shelf
attribute [local go_sem] Oper.semAt_some

noncomputable def C33 : Code := Try.f33.body.getD .skip
set_option maxRecDepth 100000 in
set_option maxHeartbeats 4000000 in
theorem rv0 (n : Nat) (W : World) (r : Nat) (Q : Exit → Act → World → Prop) (a : Act) (h0 : SR [(0, .pointer (some ⟨r, 0, none⟩))] 20 [] W a W)
    (hQ : ∀ a, SR [(0, .pointer (some ⟨r, 0, none⟩))] 20 [] (W) a (W) → Q .normal a (W)) : (regOf 0 C33).wpIn Fence.wide n Try.prog Q a W := by
  simp only [regOf, C33, Try.f33, Option.getD, Nat.reduceBEq, Bool.false_eq_true, if_true, if_false]
  refine region_sq (fun k_ a w => match k_ with | 0 => SR [(0, .pointer (some ⟨r, 0, none⟩))] 20 [] (W) a w | _ => SR [(0, .pointer (some ⟨r, 0, none⟩))] 20 [] (W) a w) (show SR _ _ _ _ a W from h0) ⟨?_, trivial⟩ ?_
  · intro a w hI
    have hI : SR _ _ _ _ a w := hI
    have hw : w = W := hI.wp
    subst hw
    go_simp
    exact hI.put (d := 2) (by decide) (by simp)
  · intro a w hI
    have hI : SR _ _ _ _ a w := hI
    have hw : w = W := hI.wp
    subst hw
    exact hQ a hI
set_option maxRecDepth 100000 in
set_option maxHeartbeats 4000000 in
theorem rv1 (n : Nat) (W : World) (r : Nat) (Q : Exit → Act → World → Prop) (a : Act) (h0 : SR [(0, .pointer (some ⟨r, 0, none⟩))] 20 [] W a W)
    (hQ : ∀ a, SR [(0, .pointer (some ⟨r, 0, none⟩)), (3, .int .i64 0)] 20 [] (W) a (W) → Q .normal a (W)) : (regOf 1 C33).wpIn Fence.wide n Try.prog Q a W := by
  simp only [regOf, C33, Try.f33, Option.getD, Nat.reduceBEq, Bool.false_eq_true, if_true, if_false]
  refine region_sq (fun k_ a w => match k_ with | 0 => SR [(0, .pointer (some ⟨r, 0, none⟩))] 20 [] (W) a w | _ => SR [(0, .pointer (some ⟨r, 0, none⟩)), (3, .int .i64 0)] 20 [] (W) a w) (show SR _ _ _ _ a W from h0) ⟨?_, trivial⟩ ?_
  · intro a w hI
    have hI : SR _ _ _ _ a w := hI
    have hw : w = W := hI.wp
    subst hw
    go_simp
    exact hI.put (d := 3) (by decide) (by simp)
  · intro a w hI
    have hI : SR _ _ _ _ a w := hI
    have hw : w = W := hI.wp
    subst hw
    exact hQ a hI
set_option maxRecDepth 100000 in
set_option maxHeartbeats 4000000 in
theorem rv2 (n : Nat) (W : World) (r : Nat) (Q : Exit → Act → World → Prop) (a : Act) (h0 : SR [(0, .pointer (some ⟨r, 0, none⟩)), (3, .int .i64 0)] 20 [] W a W)
    (hQ : ∀ a, SR [(0, .pointer (some ⟨r, 0, none⟩)), (3, .int .i64 0), (4, .int .i64 0)] 20 [] (W) a (W) → Q .normal a (W)) : (regOf 2 C33).wpIn Fence.wide n Try.prog Q a W := by
  simp only [regOf, C33, Try.f33, Option.getD, Nat.reduceBEq, Bool.false_eq_true, if_true, if_false]
  refine region_sq (fun k_ a w => match k_ with | 0 => SR [(0, .pointer (some ⟨r, 0, none⟩)), (3, .int .i64 0)] 20 [] (W) a w | _ => SR [(0, .pointer (some ⟨r, 0, none⟩)), (3, .int .i64 0), (4, .int .i64 0)] 20 [] (W) a w) (show SR _ _ _ _ a W from h0) ⟨?_, trivial⟩ ?_
  · intro a w hI
    have hI : SR _ _ _ _ a w := hI
    have hw : w = W := hI.wp
    subst hw
    go_simp
    exact hI.put (d := 4) (by decide) (by simp)
  · intro a w hI
    have hI : SR _ _ _ _ a w := hI
    have hw : w = W := hI.wp
    subst hw
    exact hQ a hI
set_option maxRecDepth 100000 in
set_option maxHeartbeats 4000000 in
theorem rv3 (n : Nat) (W : World) (r c i : Nat)  (Q : Exit → Act → World → Prop) (a : Act) (h0 : SR [(0, .pointer (some ⟨r, 0, none⟩)), (3, .int .i64 c), (4, .int .i64 i)] 20 [] W a W)
    (hQ : ∀ a, SR [(0, .pointer (some ⟨r, 0, none⟩)), (3, .int .i64 c), (4, .int .i64 i), (6, .bool (decide ((i : Int) < 4096)))] 20 [] (W) a (W) → Q .normal a (W)) : (regOf 3 C33).wpIn Fence.wide n Try.prog Q a W := by
  simp only [regOf, C33, Try.f33, Option.getD, Nat.reduceBEq, Bool.false_eq_true, if_true, if_false]
  refine region_sq (fun k_ a w => match k_ with | 0 => SR [(0, .pointer (some ⟨r, 0, none⟩)), (3, .int .i64 c), (4, .int .i64 i)] 20 [] (W) a w | 1 => SR [(0, .pointer (some ⟨r, 0, none⟩)), (3, .int .i64 c), (4, .int .i64 i), (5, .int .i64 i)] 20 [] (W) a w | _ => SR [(0, .pointer (some ⟨r, 0, none⟩)), (3, .int .i64 c), (4, .int .i64 i), (6, .bool (decide ((i : Int) < 4096)))] 20 [] (W) a w) (show SR _ _ _ _ a W from h0) ⟨?_, ?_, trivial⟩ ?_
  · intro a w hI
    have hI : SR _ _ _ _ a w := hI
    have e4 := hI.g 4 rfl
    have hw : w = W := hI.wp
    subst hw
    go_simp
    exact hI.put (d := 5) (by decide) (by simp)
  · intro a w hI
    have hI : SR _ _ _ _ a w := hI
    have e5 := hI.g 5 rfl
    have hw : w = W := hI.wp
    subst hw
    go_simp
    exact hI.put (d := 6) (by decide) (by simp)
  · intro a w hI
    have hI : SR _ _ _ _ a w := hI
    have hw : w = W := hI.wp
    subst hw
    exact hQ a hI
set_option maxRecDepth 100000 in
set_option maxHeartbeats 4000000 in
theorem rv5 (n : Nat) {G : World → Prop} (hS : Stable G) (r c i : Nat) (k : Int) (mb : Bool) (hi : i < 4096) (ca : ∀ w, G w → w.cell? ⟨r, i * 2, none⟩ = some (.int .u8 k)) (hc : ∀ m w, G w → CallsIn Fence.wide m Try.prog 29 #[.int .u8 k] w fun e w' => e = .returned (.bool mb) ∧ Below w.heap.size w w') (Q : Exit → Act → World → Prop) (a : Act) (w : World) (h0 : SG [(0, .pointer (some ⟨r, 0, none⟩)), (3, .int .i64 c), (4, .int .i64 i)] 20 G a w)
    (hQ : ∀ a w, SG [(0, .pointer (some ⟨r, 0, none⟩)), (3, .int .i64 c), (4, .int .i64 i), (16, .bool mb)] 20 G a w → Q .normal a w) : (regOf 5 C33).wpIn Fence.wide n Try.prog Q a w := by
  simp only [regOf, C33, Try.f33, Option.getD, Nat.reduceBEq, Bool.false_eq_true, if_true, if_false]
  refine region_sq (fun k_ a w => match k_ with | 0 => SG [(0, .pointer (some ⟨r, 0, none⟩)), (3, .int .i64 c), (4, .int .i64 i)] 20 G a w | 1 => SG [(0, .pointer (some ⟨r, 0, none⟩)), (3, .int .i64 c), (4, .int .i64 i), (9, .pointer (some ⟨r, 0, none⟩))] 20 G a w | 2 => SG [(0, .pointer (some ⟨r, 0, none⟩)), (3, .int .i64 c), (4, .int .i64 i), (9, .pointer (some ⟨r, 0, none⟩)), (10, .int .i64 i)] 20 G a w | 3 => SG [(0, .pointer (some ⟨r, 0, none⟩)), (3, .int .i64 c), (4, .int .i64 i), (10, .int .i64 i), (11, .pointer (some ⟨r, 0, none⟩))] 20 G a w | 4 => SG [(0, .pointer (some ⟨r, 0, none⟩)), (3, .int .i64 c), (4, .int .i64 i), (10, .int .i64 i), (12, .pointer (some ⟨r, 0, none⟩))] 20 G a w | 5 => SG [(0, .pointer (some ⟨r, 0, none⟩)), (3, .int .i64 c), (4, .int .i64 i), (13, .pointer (some ⟨r, i * 2, none⟩))] 20 G a w | 6 => SG [(0, .pointer (some ⟨r, 0, none⟩)), (3, .int .i64 c), (4, .int .i64 i), (14, .pointer (some ⟨r, i * 2, none⟩))] 20 G a w | 7 => SG [(0, .pointer (some ⟨r, 0, none⟩)), (3, .int .i64 c), (4, .int .i64 i), (15, .int .u8 k)] 20 G a w | _ => SG [(0, .pointer (some ⟨r, 0, none⟩)), (3, .int .i64 c), (4, .int .i64 i), (16, .bool mb)] 20 G a w) (show SG _ _ G a w from h0) ⟨?_, ?_, ?_, ?_, ?_, ?_, ?_, ?_, trivial⟩ ?_
  · intro a w hI
    have hI : SG _ _ G a w := hI
    have e0 := hI.g 0 rfl
    go_simp
    exact hI.put (d := 9) (by decide) (by simp) hI.wp
  · intro a w hI
    have hI : SG _ _ G a w := hI
    have e4 := hI.g 4 rfl
    go_simp
    exact hI.put (d := 10) (by decide) (by simp) hI.wp
  · intro a w hI
    have hI : SG _ _ G a w := hI
    have e9 := hI.g 9 rfl
    go_simp
    exact hI.put (d := 11) (by decide) (by simp) hI.wp
  · intro a w hI
    have hI : SG _ _ G a w := hI
    have e11 := hI.g 11 rfl
    go_simp
    exact hI.put (d := 12) (by decide) (by simp) hI.wp
  · intro a w hI
    have hI : SG _ _ G a w := hI
    have e12 := hI.g 12 rfl
    have e10 := hI.g 10 rfl
    have q1_4 : (0 : Int) ≤ i := by omega
    have q2_4 : (i : Int) < 4096 := by omega
    go_simp
    exact hI.put (d := 13) (by decide) (by simp) hI.wp
  · intro a w hI
    have hI : SG _ _ G a w := hI
    have e13 := hI.g 13 rfl
    go_simp
    exact hI.put (d := 14) (by decide) (by simp) hI.wp
  · intro a w hI
    have hI : SG _ _ G a w := hI
    have e14 := hI.g 14 rfl
    have cc0 := ca w hI.wp
    go_simp
    exact hI.put (d := 15) (by decide) (by simp) hI.wp
  · intro a w hI
    have hI : SG _ _ G a w := hI
    have e15 := hI.g 15 rfl
    go_simp
    refine ⟨trivial, fun h => (by cases h), (hc (n - 1) w hI.wp).mono ?_⟩
    rintro e w' ⟨rfl, hb2⟩
    exact hI.put (d := 16) (by decide) (by simp) (hS _ _ hI.wp hb2)
  · intro a w hI
    have hI : SG _ _ G a w := hI
    exact hQ a w hI
set_option maxRecDepth 100000 in
set_option maxHeartbeats 4000000 in
theorem rv6 (n : Nat) (W : World) (r c i : Nat) (hc : c < 4096) (Q : Exit → Act → World → Prop) (a : Act) (h0 : SR [(0, .pointer (some ⟨r, 0, none⟩)), (3, .int .i64 c), (4, .int .i64 i)] 20 [] W a W)
    (hQ : ∀ a, SR [(0, .pointer (some ⟨r, 0, none⟩)), (3, .int .i64 ((c : Int) + 1)), (4, .int .i64 i)] 20 [] (W) a (W) → Q .normal a (W)) : (regOf 6 C33).wpIn Fence.wide n Try.prog Q a W := by
  simp only [regOf, C33, Try.f33, Option.getD, Nat.reduceBEq, Bool.false_eq_true, if_true, if_false]
  refine region_sq (fun k_ a w => match k_ with | 0 => SR [(0, .pointer (some ⟨r, 0, none⟩)), (3, .int .i64 c), (4, .int .i64 i)] 20 [] (W) a w | 1 => SR [(0, .pointer (some ⟨r, 0, none⟩)), (4, .int .i64 i), (17, .int .i64 c)] 20 [] (W) a w | 2 => SR [(0, .pointer (some ⟨r, 0, none⟩)), (4, .int .i64 i), (18, .int .i64 ((c : Int) + 1))] 20 [] (W) a w | _ => SR [(0, .pointer (some ⟨r, 0, none⟩)), (4, .int .i64 i), (3, .int .i64 ((c : Int) + 1))] 20 [] (W) a w) (show SR _ _ _ _ a W from h0) ⟨?_, ?_, ?_, trivial⟩ ?_
  · intro a w hI
    have hI : SR _ _ _ _ a w := hI
    have e3 := hI.g 3 rfl
    have hw : w = W := hI.wp
    subst hw
    go_simp
    exact hI.put (d := 17) (by decide) (by simp)
  · intro a w hI
    have hI : SR _ _ _ _ a w := hI
    have e17 := hI.g 17 rfl
    have hw : w = W := hI.wp
    subst hw
    have hw1 : IntKind.i64.wrap ((c : Int) + 1) = (c : Int) + 1 := IntWalk.i64_in _ (by omega)
    go_simp
    exact hI.put (d := 18) (by decide) (by simp)
  · intro a w hI
    have hI : SR _ _ _ _ a w := hI
    have e18 := hI.g 18 rfl
    have hw : w = W := hI.wp
    subst hw
    go_simp
    exact hI.put (d := 3) (by decide) (by simp)
  · intro a w hI
    have hI : SR _ _ _ _ a w := hI
    have hw : w = W := hI.wp
    subst hw
    exact hQ a (hI.sub (by intro p hp; simp only [List.mem_cons, List.not_mem_nil, or_false] at hp ⊢; rcases hp with h | h | h <;> simp [h]))
set_option maxRecDepth 100000 in
set_option maxHeartbeats 4000000 in
theorem rv4 (n : Nat) (W : World) (r c i : Nat) (hi : i < 4096) (Q : Exit → Act → World → Prop) (a : Act) (h0 : SR [(0, .pointer (some ⟨r, 0, none⟩)), (3, .int .i64 c), (4, .int .i64 i)] 20 [] W a W)
    (hQ : ∀ a, SR [(0, .pointer (some ⟨r, 0, none⟩)), (3, .int .i64 c), (4, .int .i64 ((i : Int) + 1))] 20 [] (W) a (W) → Q .normal a (W)) : (regOf 4 C33).wpIn Fence.wide n Try.prog Q a W := by
  simp only [regOf, C33, Try.f33, Option.getD, Nat.reduceBEq, Bool.false_eq_true, if_true, if_false]
  refine region_sq (fun k_ a w => match k_ with | 0 => SR [(0, .pointer (some ⟨r, 0, none⟩)), (3, .int .i64 c), (4, .int .i64 i)] 20 [] (W) a w | 1 => SR [(0, .pointer (some ⟨r, 0, none⟩)), (3, .int .i64 c), (7, .int .i64 i)] 20 [] (W) a w | 2 => SR [(0, .pointer (some ⟨r, 0, none⟩)), (3, .int .i64 c), (8, .int .i64 ((i : Int) + 1))] 20 [] (W) a w | _ => SR [(0, .pointer (some ⟨r, 0, none⟩)), (3, .int .i64 c), (4, .int .i64 ((i : Int) + 1))] 20 [] (W) a w) (show SR _ _ _ _ a W from h0) ⟨?_, ?_, ?_, trivial⟩ ?_
  · intro a w hI
    have hI : SR _ _ _ _ a w := hI
    have e4 := hI.g 4 rfl
    have hw : w = W := hI.wp
    subst hw
    go_simp
    exact hI.put (d := 7) (by decide) (by simp)
  · intro a w hI
    have hI : SR _ _ _ _ a w := hI
    have e7 := hI.g 7 rfl
    have hw : w = W := hI.wp
    subst hw
    have hw1 : IntKind.i64.wrap ((i : Int) + 1) = (i : Int) + 1 := IntWalk.i64_in _ (by omega)
    go_simp
    exact hI.put (d := 8) (by decide) (by simp)
  · intro a w hI
    have hI : SR _ _ _ _ a w := hI
    have e8 := hI.g 8 rfl
    have hw : w = W := hI.wp
    subst hw
    go_simp
    exact hI.put (d := 4) (by decide) (by simp)
  · intro a w hI
    have hI : SR _ _ _ _ a w := hI
    have hw : w = W := hI.wp
    subst hw
    exact hQ a hI
set_option maxRecDepth 100000 in
set_option maxHeartbeats 4000000 in
theorem rv7 (n : Nat) (W : World) (c : Nat) (Q : Exit → Act → World → Prop) (a : Act) (h0 : SR [(3, .int .i64 c)] 20 [] W a W)
    (hQ : ∀ a, SR [(2, .int .i64 c)] 20 [] (W) a (W) → Q .normal a (W)) : (regOf 7 C33).wpIn Fence.wide n Try.prog Q a W := by
  simp only [regOf, C33, Try.f33, Option.getD, Nat.reduceBEq, Bool.false_eq_true, if_true, if_false]
  refine region_sq (fun k_ a w => match k_ with | 0 => SR [(3, .int .i64 c)] 20 [] (W) a w | 1 => SR [(19, .int .i64 c)] 20 [] (W) a w | _ => SR [(2, .int .i64 c)] 20 [] (W) a w) (show SR _ _ _ _ a W from h0) ⟨?_, ?_, trivial⟩ ?_
  · intro a w hI
    have hI : SR _ _ _ _ a w := hI
    have e3 := hI.g 3 rfl
    have hw : w = W := hI.wp
    subst hw
    go_simp
    exact hI.put (d := 19) (by decide) (by simp)
  · intro a w hI
    have hI : SR _ _ _ _ a w := hI
    have e19 := hI.g 19 rfl
    have hw : w = W := hI.wp
    subst hw
    go_simp
    exact hI.put (d := 2) (by decide) (by simp)
  · intro a w hI
    have hI : SR _ _ _ _ a w := hI
    have hw : w = W := hI.wp
    subst hw
    exact hQ a hI
noncomputable def C18 : Code := Try.f18.body.getD .skip
set_option maxRecDepth 100000 in
set_option maxHeartbeats 4000000 in
theorem rm0p (n : Nat) (W : World) (r : Nat) (x y z : Int)  (Q : Exit → Act → World → Prop) (a : Act) (h0 : SR [(0, .pointer (some ⟨r, 0, none⟩)), (1, .agg #[.int .i64 x, .int .i64 y, .int .i64 z])] 16 [] W a W)
    (hQ : ∀ a, SR [(0, .pointer (some ⟨r, 0, none⟩)), (3, .pointer (some ⟨W.heap.size, 0, none⟩))] 16 [] (W.alloc (.cells #[.int .i64 x, .int .i64 y, .int .i64 z] 33)) a (W.alloc (.cells #[.int .i64 x, .int .i64 y, .int .i64 z] 33)) → Q .normal a (W.alloc (.cells #[.int .i64 x, .int .i64 y, .int .i64 z] 33))) : (regOf 0 C18).wpIn Fence.wide n Try.prog Q a W := by
  simp only [regOf, C18, Try.f18, Option.getD, Nat.reduceBEq, Bool.false_eq_true, if_true, if_false]
  refine region_sq (fun k_ a w => match k_ with | 0 => SR [(0, .pointer (some ⟨r, 0, none⟩)), (1, .agg #[.int .i64 x, .int .i64 y, .int .i64 z])] 16 [] (W) a w | 1 => SR [(0, .pointer (some ⟨r, 0, none⟩)), (3, .pointer (some ⟨W.heap.size, 0, none⟩))] 16 [] (W.alloc (.cells #[.int .i64 x, .int .i64 y, .int .i64 z] 33)) a w | 2 => SR [(0, .pointer (some ⟨r, 0, none⟩)), (3, .pointer (some ⟨W.heap.size, 0, none⟩))] 16 [] (W.alloc (.cells #[.int .i64 x, .int .i64 y, .int .i64 z] 33)) a w | _ => SR [(0, .pointer (some ⟨r, 0, none⟩)), (3, .pointer (some ⟨W.heap.size, 0, none⟩))] 16 [] (W.alloc (.cells #[.int .i64 x, .int .i64 y, .int .i64 z] 33)) a w) (show SR _ _ _ _ a W from h0) ⟨?_, ?_, ?_, trivial⟩ ?_
  · intro a w hI
    have hI : SR _ _ _ _ a w := hI
    have e1 := hI.g 1 rfl
    have hw : w = W := hI.wp
    subst hw
    go_simp
    exact hI.put (d := 3) (by decide) (by simp)
  · intro a w hI
    have hI : SR _ _ _ _ a w := hI
    obtain rfl := hI.wp
    go_simp
    exact hI.put (d := 4) (by decide) (by simp)
  · intro a w hI
    have hI : SR _ _ _ _ a w := hI
    obtain rfl := hI.wp
    go_simp
    exact hI.put (d := 5) (by decide) (by simp)
  · intro a w hI
    have hI : SR _ _ _ _ a w := hI
    obtain rfl := hI.wp
    exact hQ a hI
set_option maxRecDepth 100000 in
set_option maxHeartbeats 4000000 in
theorem rm1p (n : Nat) (W : World) (r : Nat) (bx : Nat) (Q : Exit → Act → World → Prop) (a : Act) (h0 : SR [(0, .pointer (some ⟨r, 0, none⟩)), (3, .pointer (some ⟨bx, 0, none⟩))] 16 [] W a W)
    (hQ : ∀ a, SR [(0, .pointer (some ⟨r, 0, none⟩)), (3, .pointer (some ⟨bx, 0, none⟩)), (7, .bool false)] 16 [] (W) a (W) → Q .normal a (W)) : (regOf 1 C18).wpIn Fence.wide n Try.prog Q a W := by
  simp only [regOf, C18, Try.f18, Option.getD, Nat.reduceBEq, Bool.false_eq_true, if_true, if_false]
  refine region_sq (fun k_ a w => match k_ with | 0 => SR [(0, .pointer (some ⟨r, 0, none⟩)), (3, .pointer (some ⟨bx, 0, none⟩))] 16 [] (W) a w | 1 => SR [(0, .pointer (some ⟨r, 0, none⟩)), (3, .pointer (some ⟨bx, 0, none⟩)), (6, .pointer (some ⟨r, 0, none⟩))] 16 [] (W) a w | _ => SR [(0, .pointer (some ⟨r, 0, none⟩)), (3, .pointer (some ⟨bx, 0, none⟩)), (7, .bool false)] 16 [] (W) a w) (show SR _ _ _ _ a W from h0) ⟨?_, ?_, trivial⟩ ?_
  · intro a w hI
    have hI : SR _ _ _ _ a w := hI
    have e0 := hI.g 0 rfl
    have hw : w = W := hI.wp
    subst hw
    go_simp
    exact hI.put (d := 6) (by decide) (by simp)
  · intro a w hI
    have hI : SR _ _ _ _ a w := hI
    have e6 := hI.g 6 rfl
    have hw : w = W := hI.wp
    subst hw
    go_simp
    exact hI.put (d := 7) (by decide) (by simp)
  · intro a w hI
    have hI : SR _ _ _ _ a w := hI
    have hw : w = W := hI.wp
    subst hw
    exact hQ a hI
set_option maxRecDepth 100000 in
set_option maxHeartbeats 4000000 in
theorem rm0n (n : Nat) (W : World) (x y z : Int)  (Q : Exit → Act → World → Prop) (a : Act) (h0 : SR [(0, .pointer none), (1, .agg #[.int .i64 x, .int .i64 y, .int .i64 z])] 16 [] W a W)
    (hQ : ∀ a, SR [(0, .pointer none), (3, .pointer (some ⟨W.heap.size, 0, none⟩))] 16 [] (W.alloc (.cells #[.int .i64 x, .int .i64 y, .int .i64 z] 33)) a (W.alloc (.cells #[.int .i64 x, .int .i64 y, .int .i64 z] 33)) → Q .normal a (W.alloc (.cells #[.int .i64 x, .int .i64 y, .int .i64 z] 33))) : (regOf 0 C18).wpIn Fence.wide n Try.prog Q a W := by
  simp only [regOf, C18, Try.f18, Option.getD, Nat.reduceBEq, Bool.false_eq_true, if_true, if_false]
  refine region_sq (fun k_ a w => match k_ with | 0 => SR [(0, .pointer none), (1, .agg #[.int .i64 x, .int .i64 y, .int .i64 z])] 16 [] (W) a w | 1 => SR [(0, .pointer none), (3, .pointer (some ⟨W.heap.size, 0, none⟩))] 16 [] (W.alloc (.cells #[.int .i64 x, .int .i64 y, .int .i64 z] 33)) a w | 2 => SR [(0, .pointer none), (3, .pointer (some ⟨W.heap.size, 0, none⟩))] 16 [] (W.alloc (.cells #[.int .i64 x, .int .i64 y, .int .i64 z] 33)) a w | _ => SR [(0, .pointer none), (3, .pointer (some ⟨W.heap.size, 0, none⟩))] 16 [] (W.alloc (.cells #[.int .i64 x, .int .i64 y, .int .i64 z] 33)) a w) (show SR _ _ _ _ a W from h0) ⟨?_, ?_, ?_, trivial⟩ ?_
  · intro a w hI
    have hI : SR _ _ _ _ a w := hI
    have e1 := hI.g 1 rfl
    have hw : w = W := hI.wp
    subst hw
    go_simp
    exact hI.put (d := 3) (by decide) (by simp)
  · intro a w hI
    have hI : SR _ _ _ _ a w := hI
    obtain rfl := hI.wp
    go_simp
    exact hI.put (d := 4) (by decide) (by simp)
  · intro a w hI
    have hI : SR _ _ _ _ a w := hI
    obtain rfl := hI.wp
    go_simp
    exact hI.put (d := 5) (by decide) (by simp)
  · intro a w hI
    have hI : SR _ _ _ _ a w := hI
    obtain rfl := hI.wp
    exact hQ a hI
set_option maxRecDepth 100000 in
set_option maxHeartbeats 4000000 in
theorem rm1n (n : Nat) (W : World) (bx : Nat) (Q : Exit → Act → World → Prop) (a : Act) (h0 : SR [(0, .pointer none), (3, .pointer (some ⟨bx, 0, none⟩))] 16 [] W a W)
    (hQ : ∀ a, SR [(0, .pointer none), (3, .pointer (some ⟨bx, 0, none⟩)), (7, .bool true)] 16 [] (W) a (W) → Q .normal a (W)) : (regOf 1 C18).wpIn Fence.wide n Try.prog Q a W := by
  simp only [regOf, C18, Try.f18, Option.getD, Nat.reduceBEq, Bool.false_eq_true, if_true, if_false]
  refine region_sq (fun k_ a w => match k_ with | 0 => SR [(0, .pointer none), (3, .pointer (some ⟨bx, 0, none⟩))] 16 [] (W) a w | 1 => SR [(0, .pointer none), (3, .pointer (some ⟨bx, 0, none⟩)), (6, .pointer none)] 16 [] (W) a w | _ => SR [(0, .pointer none), (3, .pointer (some ⟨bx, 0, none⟩)), (7, .bool true)] 16 [] (W) a w) (show SR _ _ _ _ a W from h0) ⟨?_, ?_, trivial⟩ ?_
  · intro a w hI
    have hI : SR _ _ _ _ a w := hI
    have e0 := hI.g 0 rfl
    have hw : w = W := hI.wp
    subst hw
    go_simp
    exact hI.put (d := 6) (by decide) (by simp)
  · intro a w hI
    have hI : SR _ _ _ _ a w := hI
    have e6 := hI.g 6 rfl
    have hw : w = W := hI.wp
    subst hw
    go_simp
    exact hI.put (d := 7) (by decide) (by simp)
  · intro a w hI
    have hI : SR _ _ _ _ a w := hI
    have hw : w = W := hI.wp
    subst hw
    exact hQ a hI
set_option maxRecDepth 100000 in
set_option maxHeartbeats 4000000 in
theorem rm2 (n : Nat) (W : World)  (Q : Exit → Act → World → Prop) (a : Act) (h0 : SR [] 16 [] W a W)
    (hQ : ∀ a, SR [(4, .int .i64 0), (5, .int .i64 1)] 16 [] (W) a (W) → Q .normal a (W)) : (regOf 2 C18).wpIn Fence.wide n Try.prog Q a W := by
  simp only [regOf, C18, Try.f18, Option.getD, Nat.reduceBEq, Bool.false_eq_true, if_true, if_false]
  refine region_sq (fun k_ a w => match k_ with | 0 => SR [] 16 [] (W) a w | 1 => SR [(4, .int .i64 0)] 16 [] (W) a w | _ => SR [(4, .int .i64 0), (5, .int .i64 1)] 16 [] (W) a w) (show SR _ _ _ _ a W from h0) ⟨?_, ?_, trivial⟩ ?_
  · intro a w hI
    have hI : SR _ _ _ _ a w := hI
    have hw : w = W := hI.wp
    subst hw
    go_simp
    exact hI.put (d := 4) (by decide) (by simp)
  · intro a w hI
    have hI : SR _ _ _ _ a w := hI
    have hw : w = W := hI.wp
    subst hw
    go_simp
    exact hI.put (d := 5) (by decide) (by simp)
  · intro a w hI
    have hI : SR _ _ _ _ a w := hI
    have hw : w = W := hI.wp
    subst hw
    exact hQ a hI
set_option maxRecDepth 100000 in
set_option maxHeartbeats 4000000 in
theorem rm3 (n : Nat) {G : World → Prop} (hS : Stable G) (r bx : Nat) (x y z : Int) (mb : Bool) (k0 : ∀ w, G w → w.cell? ⟨bx, 0, none⟩ = some (.int .i64 x)) (k1 : ∀ w, G w → w.cell? ⟨bx, 1, none⟩ = some (.int .i64 y)) (k2 : ∀ w, G w → w.cell? ⟨bx, 2, none⟩ = some (.int .i64 z)) (hc : ∀ m w, G w → CallsIn Fence.wide m Try.prog 32 #[.agg #[.int .i64 x, .int .i64 y, .int .i64 z]] w fun e w' => e = .returned (.bool mb) ∧ Below w.heap.size w w') (Q : Exit → Act → World → Prop) (a : Act) (w : World) (h0 : SG [(0, .pointer (some ⟨r, 0, none⟩)), (3, .pointer (some ⟨bx, 0, none⟩))] 16 G a w)
    (hQ : ∀ a w, SG [(0, .pointer (some ⟨r, 0, none⟩)), (3, .pointer (some ⟨bx, 0, none⟩)), (10, .bool (!mb))] 16 G a w → Q .normal a w) : (regOf 3 C18).wpIn Fence.wide n Try.prog Q a w := by
  simp only [regOf, C18, Try.f18, Option.getD, Nat.reduceBEq, Bool.false_eq_true, if_true, if_false]
  refine region_sq (fun k_ a w => match k_ with | 0 => SG [(0, .pointer (some ⟨r, 0, none⟩)), (3, .pointer (some ⟨bx, 0, none⟩))] 16 G a w | 1 => SG [(0, .pointer (some ⟨r, 0, none⟩)), (3, .pointer (some ⟨bx, 0, none⟩)), (8, .agg #[.int .i64 x, .int .i64 y, .int .i64 z])] 16 G a w | 2 => SG [(0, .pointer (some ⟨r, 0, none⟩)), (3, .pointer (some ⟨bx, 0, none⟩)), (9, .bool mb)] 16 G a w | _ => SG [(0, .pointer (some ⟨r, 0, none⟩)), (3, .pointer (some ⟨bx, 0, none⟩)), (10, .bool (!mb))] 16 G a w) (show SG _ _ G a w from h0) ⟨?_, ?_, ?_, trivial⟩ ?_
  · intro a w hI
    have hI : SG _ _ G a w := hI
    have e3 := hI.g 3 rfl
    have cc0 := k0 w hI.wp
    have cc1 := k1 w hI.wp
    have cc2 := k2 w hI.wp
    go_simp
    exact hI.put (d := 8) (by decide) (by simp) hI.wp
  · intro a w hI
    have hI : SG _ _ G a w := hI
    have e8 := hI.g 8 rfl
    go_simp
    refine ⟨trivial, fun h => (by cases h), (hc (n - 1) w hI.wp).mono ?_⟩
    rintro e w' ⟨rfl, hb2⟩
    exact hI.put (d := 9) (by decide) (by simp) (hS _ _ hI.wp hb2)
  · intro a w hI
    have hI : SG _ _ G a w := hI
    have e9 := hI.g 9 rfl
    go_simp
    exact hI.put (d := 10) (by decide) (by simp) hI.wp
  · intro a w hI
    have hI : SG _ _ G a w := hI
    exact hQ a w hI
set_option maxRecDepth 100000 in
set_option maxHeartbeats 4000000 in
theorem rm4 (n : Nat) (W : World)  (Q : Exit → Act → World → Prop) (a : Act) (h0 : SR [] 16 [] W a W)
    (hQ : ∀ a, SR [(4, .int .i64 0), (5, .int .i64 10)] 16 [] (W) a (W) → Q .normal a (W)) : (regOf 4 C18).wpIn Fence.wide n Try.prog Q a W := by
  simp only [regOf, C18, Try.f18, Option.getD, Nat.reduceBEq, Bool.false_eq_true, if_true, if_false]
  refine region_sq (fun k_ a w => match k_ with | 0 => SR [] 16 [] (W) a w | 1 => SR [(4, .int .i64 0)] 16 [] (W) a w | _ => SR [(4, .int .i64 0), (5, .int .i64 10)] 16 [] (W) a w) (show SR _ _ _ _ a W from h0) ⟨?_, ?_, trivial⟩ ?_
  · intro a w hI
    have hI : SR _ _ _ _ a w := hI
    have hw : w = W := hI.wp
    subst hw
    go_simp
    exact hI.put (d := 4) (by decide) (by simp)
  · intro a w hI
    have hI : SR _ _ _ _ a w := hI
    have hw : w = W := hI.wp
    subst hw
    go_simp
    exact hI.put (d := 5) (by decide) (by simp)
  · intro a w hI
    have hI : SR _ _ _ _ a w := hI
    have hw : w = W := hI.wp
    subst hw
    exact hQ a hI
set_option maxRecDepth 100000 in
set_option maxHeartbeats 4000000 in
theorem rm5 (n : Nat) {G : World → Prop} (hS : Stable G) (r bx : Nat) (c l : Int) (hc1 : 0 ≤ c) (hc2 : c ≤ 4096) (hl1 : 0 ≤ l) (hl2 : l ≤ 4096) (x y z : Int)  (k0 : ∀ w, G w → w.cell? ⟨bx, 0, none⟩ = some (.int .i64 x)) (k1 : ∀ w, G w → w.cell? ⟨bx, 1, none⟩ = some (.int .i64 y)) (k2 : ∀ w, G w → w.cell? ⟨bx, 2, none⟩ = some (.int .i64 z)) (hc : ∀ m w, G w → CallsIn Fence.wide m Try.prog 33 #[.pointer (some ⟨r, 0, none⟩)] w fun e w' => e = .returned (.int .i64 c) ∧ Below w.heap.size w w') (hl : ∀ m w, G w → CallsIn Fence.wide m Try.prog 34 #[.agg #[.int .i64 x, .int .i64 y, .int .i64 z]] w fun e w' => e = .returned (.int .i64 l) ∧ Below w.heap.size w w') (Q : Exit → Act → World → Prop) (a : Act) (w : World) (h0 : SG [(0, .pointer (some ⟨r, 0, none⟩)), (3, .pointer (some ⟨bx, 0, none⟩))] 16 G a w)
    (hQ : ∀ a w, SG [(4, .int .i64 ((c : Int) - l)), (5, .int .i64 0)] 16 G a w → Q .normal a w) : (regOf 5 C18).wpIn Fence.wide n Try.prog Q a w := by
  have hmix : Try.prog.follows .mixedOrders = true := by kernel_rfl
  simp only [regOf, C18, Try.f18, Option.getD, Nat.reduceBEq, Bool.false_eq_true, if_true, if_false]
  refine region_inv (RI [(0, .pointer (some ⟨r, 0, none⟩)), (3, .pointer (some ⟨bx, 0, none⟩))]
    [(0, 11, .pointer (some ⟨r, 0, none⟩)), (1, 12, .int .i64 c), (2, 13, .agg #[.int .i64 x, .int .i64 y, .int .i64 z]), (3, 14, .int .i64 l), (4, 15, .int .i64 ((c : Int) - l)), (5, 4, .int .i64 ((c : Int) - l)), (6, 5, .int .i64 0)] 16 [] (fun _ w => G w)) hmix (by kernel_rfl) ⟨h0.size, h0.defers, h0.kn, by simp, hS _ _ h0.wp (Below.refl _ _).drew⟩ ⟨?_, ?_, ?_, ?_, ?_, ?_, ?_, trivial⟩ ?_
  · intro Xs a w hX hdep hC hI
    have e0 := hI.gi 0 rfl
    go_simp
    exact hI.put' (k := 0) (d := 11) (by decide) (by simp) (by simp) (by simp) hI.wp
  · intro Xs a w hX hdep hC hI
    have x0 : Xs 0 = true := hdep ⟨0, .data⟩ (by simp) rfl
    have e11 := hI.gk 0 rfl x0
    go_simp
    refine ⟨trivial, fun h => (by cases h), (hc (n - 1) w hI.wp).mono ?_⟩
    rintro e w' ⟨rfl, hb2⟩
    exact hI.put' (k := 1) (d := 12) (by decide) (by simp) (by simp) (by simp) (hS _ _ hI.wp hb2)
  · intro Xs a w hX hdep hC hI
    have e3 := hI.gi 3 rfl
    have cc0 := k0 w hI.wp
    have cc1 := k1 w hI.wp
    have cc2 := k2 w hI.wp
    go_simp
    exact hI.put' (k := 2) (d := 13) (by decide) (by simp) (by simp) (by simp) hI.wp
  · intro Xs a w hX hdep hC hI
    have x2 : Xs 2 = true := hdep ⟨2, .data⟩ (by simp) rfl
    have e13 := hI.gk 2 rfl x2
    go_simp
    refine ⟨trivial, fun h => (by cases h), (hl (n - 1) w hI.wp).mono ?_⟩
    rintro e w' ⟨rfl, hb2⟩
    exact hI.put' (k := 3) (d := 14) (by decide) (by simp) (by simp) (by simp) (hS _ _ hI.wp hb2)
  · intro Xs a w hX hdep hC hI
    have x1 : Xs 1 = true := hdep ⟨1, .data⟩ (by simp) rfl
    have e12 := hI.gk 1 rfl x1
    have x3 : Xs 3 = true := hdep ⟨3, .data⟩ (by simp) rfl
    have e14 := hI.gk 3 rfl x3
    have hw4 : IntKind.i64.wrap ((c : Int) - l) = (c : Int) - l := IntWalk.i64_in _ (by omega)
    go_simp
    exact hI.put' (k := 4) (d := 15) (v := .int .i64 ((c : Int) - l)) (by decide) (by simp) (by simp) (by simp) hI.wp
  · intro Xs a w hX hdep hC hI
    have x4 : Xs 4 = true := hdep ⟨4, .data⟩ (by simp) rfl
    have e15 := hI.gk 4 rfl x4
    go_simp
    exact hI.put' (k := 5) (d := 4) (v := .int .i64 ((c : Int) - l)) (by decide) (by simp) (by simp) (by simp) hI.wp
  · intro Xs a w hX hdep hC hI
    go_simp
    exact hI.put' (k := 6) (d := 5) (by decide) (by simp) (by simp) (by simp) hI.wp
  · intro Xs a w hX hI
    refine hQ a w ⟨hI.size, hI.defers, ?_, hI.wp⟩
    simp only [List.mem_cons, List.not_mem_nil, or_false, forall_eq_or_imp, forall_eq]
    exact ⟨hI.gk 5 rfl (hX 5 (by simp)), hI.gk 6 rfl (hX 6 (by simp))⟩
noncomputable def C17 : Code := Try.f17.body.getD .skip
set_option maxRecDepth 100000 in
set_option maxHeartbeats 4000000 in
theorem rk0 (n : Nat) (W : World) (r : Nat) (Q : Exit → Act → World → Prop) (a : Act) (h0 : SR [(0, .pointer (some ⟨r, 0, none⟩))] 30 [] W a W)
    (hQ : ∀ a, SR [(0, .pointer (some ⟨r, 0, none⟩)), (2, .pointer (some ⟨W.heap.size, 0, none⟩))] 30 [] (W.alloc (.cells zr15 39)) a (W.alloc (.cells zr15 39)) → Q .normal a (W.alloc (.cells zr15 39))) : (regOf 0 C17).wpIn Fence.wide n Try.prog Q a W := by
  simp only [regOf, C17, Try.f17, Option.getD, Nat.reduceBEq, Bool.false_eq_true, if_true, if_false]
  refine region_sq (fun k_ a w => match k_ with | 0 => SR [(0, .pointer (some ⟨r, 0, none⟩))] 30 [] (W) a w | _ => SR [(0, .pointer (some ⟨r, 0, none⟩)), (2, .pointer (some ⟨W.heap.size, 0, none⟩))] 30 [] (W.alloc (.cells zr15 39)) a w) (show SR _ _ _ _ a W from h0) ⟨?_, trivial⟩ ?_
  · intro a w hI
    have hI : SR _ _ _ _ a w := hI
    have hw : w = W := hI.wp
    subst hw
    go_simp
    exact hI.put (d := 2) (by decide) (by simp)
  · intro a w hI
    have hI : SR _ _ _ _ a w := hI
    obtain rfl := hI.wp
    exact hQ a hI
set_option maxRecDepth 100000 in
set_option maxHeartbeats 4000000 in
theorem rk1 (n : Nat) (W : World) (r o2 : Nat)  (Q : Exit → Act → World → Prop) (a : Act) (h0 : SR [(0, .pointer (some ⟨r, 0, none⟩)), (2, .pointer (some ⟨o2, 0, none⟩))] 30 [] W a W)
    (hQ : ∀ a, SR [(0, .pointer (some ⟨r, 0, none⟩)), (2, .pointer (some ⟨o2, 0, none⟩)), (3, .pointer (some ⟨W.heap.size, 0, none⟩))] 30 [] (W.alloc (.cells zr15 39)) a (W.alloc (.cells zr15 39)) → Q .normal a (W.alloc (.cells zr15 39))) : (regOf 1 C17).wpIn Fence.wide n Try.prog Q a W := by
  simp only [regOf, C17, Try.f17, Option.getD, Nat.reduceBEq, Bool.false_eq_true, if_true, if_false]
  refine region_sq (fun k_ a w => match k_ with | 0 => SR [(0, .pointer (some ⟨r, 0, none⟩)), (2, .pointer (some ⟨o2, 0, none⟩))] 30 [] (W) a w | _ => SR [(0, .pointer (some ⟨r, 0, none⟩)), (2, .pointer (some ⟨o2, 0, none⟩)), (3, .pointer (some ⟨W.heap.size, 0, none⟩))] 30 [] (W.alloc (.cells zr15 39)) a w) (show SR _ _ _ _ a W from h0) ⟨?_, trivial⟩ ?_
  · intro a w hI
    have hI : SR _ _ _ _ a w := hI
    have hw : w = W := hI.wp
    subst hw
    go_simp
    exact hI.put (d := 3) (by decide) (by simp)
  · intro a w hI
    have hI : SR _ _ _ _ a w := hI
    obtain rfl := hI.wp
    exact hQ a hI
set_option maxRecDepth 100000 in
set_option maxHeartbeats 4000000 in
theorem rk2 (n : Nat) (W : World) (r o2 o : Nat)  (Q : Exit → Act → World → Prop) (a : Act) (h0 : SR [(0, .pointer (some ⟨r, 0, none⟩)), (2, .pointer (some ⟨o2, 0, none⟩)), (3, .pointer (some ⟨o, 0, none⟩))] 30 [] W a W)
    (hQ : ∀ a, SR [(0, .pointer (some ⟨r, 0, none⟩)), (2, .pointer (some ⟨o2, 0, none⟩)), (3, .pointer (some ⟨o, 0, none⟩)), (4, .int .i64 0)] 30 [] (W) a (W) → Q .normal a (W)) : (regOf 2 C17).wpIn Fence.wide n Try.prog Q a W := by
  simp only [regOf, C17, Try.f17, Option.getD, Nat.reduceBEq, Bool.false_eq_true, if_true, if_false]
  refine region_sq (fun k_ a w => match k_ with | 0 => SR [(0, .pointer (some ⟨r, 0, none⟩)), (2, .pointer (some ⟨o2, 0, none⟩)), (3, .pointer (some ⟨o, 0, none⟩))] 30 [] (W) a w | _ => SR [(0, .pointer (some ⟨r, 0, none⟩)), (2, .pointer (some ⟨o2, 0, none⟩)), (3, .pointer (some ⟨o, 0, none⟩)), (4, .int .i64 0)] 30 [] (W) a w) (show SR _ _ _ _ a W from h0) ⟨?_, trivial⟩ ?_
  · intro a w hI
    have hI : SR _ _ _ _ a w := hI
    have hw : w = W := hI.wp
    subst hw
    go_simp
    exact hI.put (d := 4) (by decide) (by simp)
  · intro a w hI
    have hI : SR _ _ _ _ a w := hI
    have hw : w = W := hI.wp
    subst hw
    exact hQ a hI
set_option maxRecDepth 100000 in
set_option maxHeartbeats 4000000 in
theorem rk3 (n : Nat) (W : World) (r o2 o k : Nat)  (Q : Exit → Act → World → Prop) (a : Act) (h0 : SR [(0, .pointer (some ⟨r, 0, none⟩)), (2, .pointer (some ⟨o2, 0, none⟩)), (3, .pointer (some ⟨o, 0, none⟩)), (4, .int .i64 k)] 30 [] W a W)
    (hQ : ∀ a, SR [(0, .pointer (some ⟨r, 0, none⟩)), (2, .pointer (some ⟨o2, 0, none⟩)), (3, .pointer (some ⟨o, 0, none⟩)), (4, .int .i64 k), (7, .bool (decide ((k : Int) < 15)))] 30 [] (W) a (W) → Q .normal a (W)) : (regOf 3 C17).wpIn Fence.wide n Try.prog Q a W := by
  simp only [regOf, C17, Try.f17, Option.getD, Nat.reduceBEq, Bool.false_eq_true, if_true, if_false]
  refine region_sq (fun k_ a w => match k_ with | 0 => SR [(0, .pointer (some ⟨r, 0, none⟩)), (2, .pointer (some ⟨o2, 0, none⟩)), (3, .pointer (some ⟨o, 0, none⟩)), (4, .int .i64 k)] 30 [] (W) a w | 1 => SR [(0, .pointer (some ⟨r, 0, none⟩)), (2, .pointer (some ⟨o2, 0, none⟩)), (3, .pointer (some ⟨o, 0, none⟩)), (4, .int .i64 k), (6, .int .i64 k)] 30 [] (W) a w | _ => SR [(0, .pointer (some ⟨r, 0, none⟩)), (2, .pointer (some ⟨o2, 0, none⟩)), (3, .pointer (some ⟨o, 0, none⟩)), (4, .int .i64 k), (7, .bool (decide ((k : Int) < 15)))] 30 [] (W) a w) (show SR _ _ _ _ a W from h0) ⟨?_, ?_, trivial⟩ ?_
  · intro a w hI
    have hI : SR _ _ _ _ a w := hI
    have e4 := hI.g 4 rfl
    have hw : w = W := hI.wp
    subst hw
    go_simp
    exact hI.put (d := 6) (by decide) (by simp)
  · intro a w hI
    have hI : SR _ _ _ _ a w := hI
    have e6 := hI.g 6 rfl
    have hw : w = W := hI.wp
    subst hw
    go_simp
    exact hI.put (d := 7) (by decide) (by simp)
  · intro a w hI
    have hI : SR _ _ _ _ a w := hI
    have hw : w = W := hI.wp
    subst hw
    exact hQ a hI
set_option maxRecDepth 100000 in
set_option maxHeartbeats 4000000 in
theorem rk5 (n : Nat) (W : World) (r o2 o k : Nat)  (Q : Exit → Act → World → Prop) (a : Act) (h0 : SR [(0, .pointer (some ⟨r, 0, none⟩)), (2, .pointer (some ⟨o2, 0, none⟩)), (3, .pointer (some ⟨o, 0, none⟩)), (4, .int .i64 k)] 30 [] W a W)
    (hQ : ∀ a, SR [(0, .pointer (some ⟨r, 0, none⟩)), (2, .pointer (some ⟨o2, 0, none⟩)), (3, .pointer (some ⟨o, 0, none⟩)), (4, .int .i64 k), (5, .int .i64 0)] 30 [] (W) a (W) → Q .normal a (W)) : (regOf 5 C17).wpIn Fence.wide n Try.prog Q a W := by
  simp only [regOf, C17, Try.f17, Option.getD, Nat.reduceBEq, Bool.false_eq_true, if_true, if_false]
  refine region_sq (fun k_ a w => match k_ with | 0 => SR [(0, .pointer (some ⟨r, 0, none⟩)), (2, .pointer (some ⟨o2, 0, none⟩)), (3, .pointer (some ⟨o, 0, none⟩)), (4, .int .i64 k)] 30 [] (W) a w | _ => SR [(0, .pointer (some ⟨r, 0, none⟩)), (2, .pointer (some ⟨o2, 0, none⟩)), (3, .pointer (some ⟨o, 0, none⟩)), (4, .int .i64 k), (5, .int .i64 0)] 30 [] (W) a w) (show SR _ _ _ _ a W from h0) ⟨?_, trivial⟩ ?_
  · intro a w hI
    have hI : SR _ _ _ _ a w := hI
    have hw : w = W := hI.wp
    subst hw
    go_simp
    exact hI.put (d := 5) (by decide) (by simp)
  · intro a w hI
    have hI : SR _ _ _ _ a w := hI
    have hw : w = W := hI.wp
    subst hw
    exact hQ a hI
set_option maxRecDepth 100000 in
set_option maxHeartbeats 4000000 in
theorem rk6 (n : Nat) (W : World) (r o2 o k i : Nat)  (Q : Exit → Act → World → Prop) (a : Act) (h0 : SR [(0, .pointer (some ⟨r, 0, none⟩)), (2, .pointer (some ⟨o2, 0, none⟩)), (3, .pointer (some ⟨o, 0, none⟩)), (4, .int .i64 k), (5, .int .i64 i)] 30 [] W a W)
    (hQ : ∀ a, SR [(0, .pointer (some ⟨r, 0, none⟩)), (2, .pointer (some ⟨o2, 0, none⟩)), (3, .pointer (some ⟨o, 0, none⟩)), (4, .int .i64 k), (5, .int .i64 i), (11, .bool (decide ((i : Int) < 4096)))] 30 [] (W) a (W) → Q .normal a (W)) : (regOf 6 C17).wpIn Fence.wide n Try.prog Q a W := by
  simp only [regOf, C17, Try.f17, Option.getD, Nat.reduceBEq, Bool.false_eq_true, if_true, if_false]
  refine region_sq (fun k_ a w => match k_ with | 0 => SR [(0, .pointer (some ⟨r, 0, none⟩)), (2, .pointer (some ⟨o2, 0, none⟩)), (3, .pointer (some ⟨o, 0, none⟩)), (4, .int .i64 k), (5, .int .i64 i)] 30 [] (W) a w | 1 => SR [(0, .pointer (some ⟨r, 0, none⟩)), (2, .pointer (some ⟨o2, 0, none⟩)), (3, .pointer (some ⟨o, 0, none⟩)), (4, .int .i64 k), (5, .int .i64 i), (10, .int .i64 i)] 30 [] (W) a w | _ => SR [(0, .pointer (some ⟨r, 0, none⟩)), (2, .pointer (some ⟨o2, 0, none⟩)), (3, .pointer (some ⟨o, 0, none⟩)), (4, .int .i64 k), (5, .int .i64 i), (11, .bool (decide ((i : Int) < 4096)))] 30 [] (W) a w) (show SR _ _ _ _ a W from h0) ⟨?_, ?_, trivial⟩ ?_
  · intro a w hI
    have hI : SR _ _ _ _ a w := hI
    have e5 := hI.g 5 rfl
    have hw : w = W := hI.wp
    subst hw
    go_simp
    exact hI.put (d := 10) (by decide) (by simp)
  · intro a w hI
    have hI : SR _ _ _ _ a w := hI
    have e10 := hI.g 10 rfl
    have hw : w = W := hI.wp
    subst hw
    go_simp
    exact hI.put (d := 11) (by decide) (by simp)
  · intro a w hI
    have hI : SR _ _ _ _ a w := hI
    have hw : w = W := hI.wp
    subst hw
    exact hQ a hI
set_option maxRecDepth 100000 in
set_option maxHeartbeats 4000000 in
theorem rk8 (n : Nat) (W : World) (r o2 o k i : Nat) (v : Nat) (hv : v < 256) (hi : i < 4096) (ca : W.cell? ⟨r, i * 2, none⟩ = some (.int .u8 v)) (Q : Exit → Act → World → Prop) (a : Act) (h0 : SR [(0, .pointer (some ⟨r, 0, none⟩)), (2, .pointer (some ⟨o2, 0, none⟩)), (3, .pointer (some ⟨o, 0, none⟩)), (4, .int .i64 k), (5, .int .i64 i)] 30 [] W a W)
    (hQ : ∀ a, SR [(0, .pointer (some ⟨r, 0, none⟩)), (2, .pointer (some ⟨o2, 0, none⟩)), (3, .pointer (some ⟨o, 0, none⟩)), (4, .int .i64 k), (5, .int .i64 i), (23, .bool ((v : Int) == k))] 30 [] (W) a (W) → Q .normal a (W)) : (regOf 8 C17).wpIn Fence.wide n Try.prog Q a W := by
  simp only [regOf, C17, Try.f17, Option.getD, Nat.reduceBEq, Bool.false_eq_true, if_true, if_false]
  refine region_sq (fun k_ a w => match k_ with | 0 => SR [(0, .pointer (some ⟨r, 0, none⟩)), (2, .pointer (some ⟨o2, 0, none⟩)), (3, .pointer (some ⟨o, 0, none⟩)), (4, .int .i64 k), (5, .int .i64 i)] 30 [] (W) a w | 1 => SR [(0, .pointer (some ⟨r, 0, none⟩)), (2, .pointer (some ⟨o2, 0, none⟩)), (3, .pointer (some ⟨o, 0, none⟩)), (4, .int .i64 k), (5, .int .i64 i), (14, .pointer (some ⟨r, 0, none⟩))] 30 [] (W) a w | 2 => SR [(0, .pointer (some ⟨r, 0, none⟩)), (2, .pointer (some ⟨o2, 0, none⟩)), (3, .pointer (some ⟨o, 0, none⟩)), (4, .int .i64 k), (5, .int .i64 i), (14, .pointer (some ⟨r, 0, none⟩)), (15, .int .i64 i)] 30 [] (W) a w | 3 => SR [(0, .pointer (some ⟨r, 0, none⟩)), (2, .pointer (some ⟨o2, 0, none⟩)), (3, .pointer (some ⟨o, 0, none⟩)), (4, .int .i64 k), (5, .int .i64 i), (15, .int .i64 i), (16, .pointer (some ⟨r, 0, none⟩))] 30 [] (W) a w | 4 => SR [(0, .pointer (some ⟨r, 0, none⟩)), (2, .pointer (some ⟨o2, 0, none⟩)), (3, .pointer (some ⟨o, 0, none⟩)), (4, .int .i64 k), (5, .int .i64 i), (15, .int .i64 i), (17, .pointer (some ⟨r, 0, none⟩))] 30 [] (W) a w | 5 => SR [(0, .pointer (some ⟨r, 0, none⟩)), (2, .pointer (some ⟨o2, 0, none⟩)), (3, .pointer (some ⟨o, 0, none⟩)), (4, .int .i64 k), (5, .int .i64 i), (18, .pointer (some ⟨r, i * 2, none⟩))] 30 [] (W) a w | 6 => SR [(0, .pointer (some ⟨r, 0, none⟩)), (2, .pointer (some ⟨o2, 0, none⟩)), (3, .pointer (some ⟨o, 0, none⟩)), (4, .int .i64 k), (5, .int .i64 i), (19, .pointer (some ⟨r, i * 2, none⟩))] 30 [] (W) a w | 7 => SR [(0, .pointer (some ⟨r, 0, none⟩)), (2, .pointer (some ⟨o2, 0, none⟩)), (3, .pointer (some ⟨o, 0, none⟩)), (4, .int .i64 k), (5, .int .i64 i), (20, .int .u8 v)] 30 [] (W) a w | 8 => SR [(0, .pointer (some ⟨r, 0, none⟩)), (2, .pointer (some ⟨o2, 0, none⟩)), (3, .pointer (some ⟨o, 0, none⟩)), (4, .int .i64 k), (5, .int .i64 i), (21, .int .i64 v)] 30 [] (W) a w | 9 => SR [(0, .pointer (some ⟨r, 0, none⟩)), (2, .pointer (some ⟨o2, 0, none⟩)), (3, .pointer (some ⟨o, 0, none⟩)), (4, .int .i64 k), (5, .int .i64 i), (21, .int .i64 v), (22, .int .i64 k)] 30 [] (W) a w | _ => SR [(0, .pointer (some ⟨r, 0, none⟩)), (2, .pointer (some ⟨o2, 0, none⟩)), (3, .pointer (some ⟨o, 0, none⟩)), (4, .int .i64 k), (5, .int .i64 i), (23, .bool ((v : Int) == k))] 30 [] (W) a w) (show SR _ _ _ _ a W from h0) ⟨?_, ?_, ?_, ?_, ?_, ?_, ?_, ?_, ?_, ?_, trivial⟩ ?_
  · intro a w hI
    have hI : SR _ _ _ _ a w := hI
    have e0 := hI.g 0 rfl
    have hw : w = W := hI.wp
    subst hw
    go_simp
    exact hI.put (d := 14) (by decide) (by simp)
  · intro a w hI
    have hI : SR _ _ _ _ a w := hI
    have e5 := hI.g 5 rfl
    have hw : w = W := hI.wp
    subst hw
    go_simp
    exact hI.put (d := 15) (by decide) (by simp)
  · intro a w hI
    have hI : SR _ _ _ _ a w := hI
    have e14 := hI.g 14 rfl
    have hw : w = W := hI.wp
    subst hw
    go_simp
    exact hI.put (d := 16) (by decide) (by simp)
  · intro a w hI
    have hI : SR _ _ _ _ a w := hI
    have e16 := hI.g 16 rfl
    have hw : w = W := hI.wp
    subst hw
    go_simp
    exact hI.put (d := 17) (by decide) (by simp)
  · intro a w hI
    have hI : SR _ _ _ _ a w := hI
    have e17 := hI.g 17 rfl
    have e15 := hI.g 15 rfl
    have hw : w = W := hI.wp
    subst hw
    have q1_4 : (0 : Int) ≤ i := by omega
    have q2_4 : (i : Int) < 4096 := by omega
    go_simp
    exact hI.put (d := 18) (by decide) (by simp)
  · intro a w hI
    have hI : SR _ _ _ _ a w := hI
    have e18 := hI.g 18 rfl
    have hw : w = W := hI.wp
    subst hw
    go_simp
    exact hI.put (d := 19) (by decide) (by simp)
  · intro a w hI
    have hI : SR _ _ _ _ a w := hI
    have e19 := hI.g 19 rfl
    have hw : w = W := hI.wp
    subst hw
    go_simp
    exact hI.put (d := 20) (by decide) (by simp)
  · intro a w hI
    have hI : SR _ _ _ _ a w := hI
    have e20 := hI.g 20 rfl
    have hw : w = W := hI.wp
    subst hw
    have hw2 : IntKind.i64.wrap (v : Int) = (v : Int) := IntWalk.i64_in _ (by omega)
    go_simp
    exact hI.put (d := 21) (by decide) (by simp)
  · intro a w hI
    have hI : SR _ _ _ _ a w := hI
    have e4 := hI.g 4 rfl
    have hw : w = W := hI.wp
    subst hw
    go_simp
    exact hI.put (d := 22) (by decide) (by simp)
  · intro a w hI
    have hI : SR _ _ _ _ a w := hI
    have e21 := hI.g 21 rfl
    have e22 := hI.g 22 rfl
    have hw : w = W := hI.wp
    subst hw
    go_simp
    exact hI.put (d := 23) (by decide) (by simp)
  · intro a w hI
    have hI : SR _ _ _ _ a w := hI
    have hw : w = W := hI.wp
    subst hw
    exact hQ a hI
set_option maxRecDepth 100000 in
set_option maxHeartbeats 4000000 in
theorem rk9 (n : Nat) (W : World) (r o2 o k i : Nat) (c : Nat) (hc : c < 5000) (hk2 : k < 15) (fw : W.frozen? ⟨o, k, none⟩ = false) (cw : W.cell? ⟨o, k, none⟩ = some (.int .i64 c))  (c1 : W.cell? ⟨o, k, none⟩ = some (.int .i64 c)) (Q : Exit → Act → World → Prop) (a : Act) (h0 : SR [(0, .pointer (some ⟨r, 0, none⟩)), (2, .pointer (some ⟨o2, 0, none⟩)), (3, .pointer (some ⟨o, 0, none⟩)), (4, .int .i64 k), (5, .int .i64 i)] 30 [] W a W)
    (hQ : ∀ a, SR [(0, .pointer (some ⟨r, 0, none⟩)), (2, .pointer (some ⟨o2, 0, none⟩)), (3, .pointer (some ⟨o, 0, none⟩)), (4, .int .i64 k), (5, .int .i64 i)] 30 [] (W.setCell ⟨o, k, none⟩ (.int .i64 ((c : Int) + 1))) a (W.setCell ⟨o, k, none⟩ (.int .i64 ((c : Int) + 1))) → Q .normal a (W.setCell ⟨o, k, none⟩ (.int .i64 ((c : Int) + 1)))) : (regOf 9 C17).wpIn Fence.wide n Try.prog Q a W := by
  simp only [regOf, C17, Try.f17, Option.getD, Nat.reduceBEq, Bool.false_eq_true, if_true, if_false]
  refine region_sq (fun k_ a w => match k_ with | 0 => SR [(0, .pointer (some ⟨r, 0, none⟩)), (2, .pointer (some ⟨o2, 0, none⟩)), (3, .pointer (some ⟨o, 0, none⟩)), (4, .int .i64 k), (5, .int .i64 i)] 30 [] (W) a w | 1 => SR [(0, .pointer (some ⟨r, 0, none⟩)), (2, .pointer (some ⟨o2, 0, none⟩)), (3, .pointer (some ⟨o, 0, none⟩)), (4, .int .i64 k), (5, .int .i64 i), (24, .int .i64 k)] 30 [] (W) a w | 2 => SR [(0, .pointer (some ⟨r, 0, none⟩)), (2, .pointer (some ⟨o2, 0, none⟩)), (3, .pointer (some ⟨o, 0, none⟩)), (4, .int .i64 k), (5, .int .i64 i), (24, .int .i64 k), (25, .pointer (some ⟨o, k, none⟩))] 30 [] (W) a w | 3 => SR [(0, .pointer (some ⟨r, 0, none⟩)), (2, .pointer (some ⟨o2, 0, none⟩)), (3, .pointer (some ⟨o, 0, none⟩)), (4, .int .i64 k), (5, .int .i64 i), (24, .int .i64 k), (26, .int .i64 c)] 30 [] (W) a w | 4 => SR [(0, .pointer (some ⟨r, 0, none⟩)), (2, .pointer (some ⟨o2, 0, none⟩)), (3, .pointer (some ⟨o, 0, none⟩)), (4, .int .i64 k), (5, .int .i64 i), (24, .int .i64 k), (27, .int .i64 ((c : Int) + 1))] 30 [] (W) a w | 5 => SR [(0, .pointer (some ⟨r, 0, none⟩)), (2, .pointer (some ⟨o2, 0, none⟩)), (3, .pointer (some ⟨o, 0, none⟩)), (4, .int .i64 k), (5, .int .i64 i), (27, .int .i64 ((c : Int) + 1)), (28, .pointer (some ⟨o, k, none⟩))] 30 [] (W) a w | _ => SR [(0, .pointer (some ⟨r, 0, none⟩)), (2, .pointer (some ⟨o2, 0, none⟩)), (3, .pointer (some ⟨o, 0, none⟩)), (4, .int .i64 k), (5, .int .i64 i)] 30 [] (W.setCell ⟨o, k, none⟩ (.int .i64 ((c : Int) + 1))) a w) (show SR _ _ _ _ a W from h0) ⟨?_, ?_, ?_, ?_, ?_, ?_, trivial⟩ ?_
  · intro a w hI
    have hI : SR _ _ _ _ a w := hI
    have e4 := hI.g 4 rfl
    have hw : w = W := hI.wp
    subst hw
    go_simp
    exact hI.put (d := 24) (by decide) (by simp)
  · intro a w hI
    have hI : SR _ _ _ _ a w := hI
    have e3 := hI.g 3 rfl
    have e24 := hI.g 24 rfl
    have hw : w = W := hI.wp
    subst hw
    have q1_1 : (0 : Int) ≤ k := by omega
    have q2_1 : (k : Int) < 15 := by omega
    go_simp
    exact hI.put (d := 25) (by decide) (by simp)
  · intro a w hI
    have hI : SR _ _ _ _ a w := hI
    have e25 := hI.g 25 rfl
    have hw : w = W := hI.wp
    subst hw
    go_simp
    exact hI.put (d := 26) (by decide) (by simp)
  · intro a w hI
    have hI : SR _ _ _ _ a w := hI
    have e26 := hI.g 26 rfl
    have hw : w = W := hI.wp
    subst hw
    have hw3 : IntKind.i64.wrap ((c : Int) + 1) = (c : Int) + 1 := IntWalk.i64_in _ (by omega)
    go_simp
    exact hI.put (d := 27) (by decide) (by simp)
  · intro a w hI
    have hI : SR _ _ _ _ a w := hI
    have e3 := hI.g 3 rfl
    have e24 := hI.g 24 rfl
    have hw : w = W := hI.wp
    subst hw
    have q1_4 : (0 : Int) ≤ k := by omega
    have q2_4 : (k : Int) < 15 := by omega
    go_simp
    exact hI.put (d := 28) (by decide) (by simp)
  · intro a w hI
    have hI : SR _ _ _ _ a w := hI
    have e28 := hI.g 28 rfl
    have e27 := hI.g 27 rfl
    have hw : w = W := hI.wp
    subst hw
    go_simp
    exact SR.sub (kn' := [(0, .pointer (some ⟨r, 0, none⟩)), (2, .pointer (some ⟨o2, 0, none⟩)), (3, .pointer (some ⟨o, 0, none⟩)), (4, .int .i64 k), (5, .int .i64 i)]) hI.none (by intro p hp; simp only [List.mem_cons, List.not_mem_nil, or_false] at hp ⊢; rcases hp with h | h | h | h | h <;> simp [h])
  · intro a w hI
    have hI : SR _ _ _ _ a w := hI
    obtain rfl := hI.wp
    exact hQ a hI
set_option maxRecDepth 100000 in
set_option maxHeartbeats 4000000 in
theorem rk7 (n : Nat) (W : World) (r o2 o k i : Nat) (hi : i < 4096) (Q : Exit → Act → World → Prop) (a : Act) (h0 : SR [(0, .pointer (some ⟨r, 0, none⟩)), (2, .pointer (some ⟨o2, 0, none⟩)), (3, .pointer (some ⟨o, 0, none⟩)), (4, .int .i64 k), (5, .int .i64 i)] 30 [] W a W)
    (hQ : ∀ a, SR [(0, .pointer (some ⟨r, 0, none⟩)), (2, .pointer (some ⟨o2, 0, none⟩)), (3, .pointer (some ⟨o, 0, none⟩)), (4, .int .i64 k), (5, .int .i64 ((i : Int) + 1))] 30 [] (W) a (W) → Q .normal a (W)) : (regOf 7 C17).wpIn Fence.wide n Try.prog Q a W := by
  simp only [regOf, C17, Try.f17, Option.getD, Nat.reduceBEq, Bool.false_eq_true, if_true, if_false]
  refine region_sq (fun k_ a w => match k_ with | 0 => SR [(0, .pointer (some ⟨r, 0, none⟩)), (2, .pointer (some ⟨o2, 0, none⟩)), (3, .pointer (some ⟨o, 0, none⟩)), (4, .int .i64 k), (5, .int .i64 i)] 30 [] (W) a w | 1 => SR [(0, .pointer (some ⟨r, 0, none⟩)), (2, .pointer (some ⟨o2, 0, none⟩)), (3, .pointer (some ⟨o, 0, none⟩)), (4, .int .i64 k), (12, .int .i64 i)] 30 [] (W) a w | 2 => SR [(0, .pointer (some ⟨r, 0, none⟩)), (2, .pointer (some ⟨o2, 0, none⟩)), (3, .pointer (some ⟨o, 0, none⟩)), (4, .int .i64 k), (13, .int .i64 ((i : Int) + 1))] 30 [] (W) a w | _ => SR [(0, .pointer (some ⟨r, 0, none⟩)), (2, .pointer (some ⟨o2, 0, none⟩)), (3, .pointer (some ⟨o, 0, none⟩)), (4, .int .i64 k), (5, .int .i64 ((i : Int) + 1))] 30 [] (W) a w) (show SR _ _ _ _ a W from h0) ⟨?_, ?_, ?_, trivial⟩ ?_
  · intro a w hI
    have hI : SR _ _ _ _ a w := hI
    have e5 := hI.g 5 rfl
    have hw : w = W := hI.wp
    subst hw
    go_simp
    exact hI.put (d := 12) (by decide) (by simp)
  · intro a w hI
    have hI : SR _ _ _ _ a w := hI
    have e12 := hI.g 12 rfl
    have hw : w = W := hI.wp
    subst hw
    have hw1 : IntKind.i64.wrap ((i : Int) + 1) = (i : Int) + 1 := IntWalk.i64_in _ (by omega)
    go_simp
    exact hI.put (d := 13) (by decide) (by simp)
  · intro a w hI
    have hI : SR _ _ _ _ a w := hI
    have e13 := hI.g 13 rfl
    have hw : w = W := hI.wp
    subst hw
    go_simp
    exact hI.put (d := 5) (by decide) (by simp)
  · intro a w hI
    have hI : SR _ _ _ _ a w := hI
    have hw : w = W := hI.wp
    subst hw
    exact hQ a hI
set_option maxRecDepth 100000 in
set_option maxHeartbeats 4000000 in
theorem rk4 (n : Nat) (W : World) (r o2 o k : Nat) (hk : k < 15) (Q : Exit → Act → World → Prop) (a : Act) (h0 : SR [(0, .pointer (some ⟨r, 0, none⟩)), (2, .pointer (some ⟨o2, 0, none⟩)), (3, .pointer (some ⟨o, 0, none⟩)), (4, .int .i64 k)] 30 [] W a W)
    (hQ : ∀ a, SR [(0, .pointer (some ⟨r, 0, none⟩)), (2, .pointer (some ⟨o2, 0, none⟩)), (3, .pointer (some ⟨o, 0, none⟩)), (4, .int .i64 ((k : Int) + 1))] 30 [] (W) a (W) → Q .normal a (W)) : (regOf 4 C17).wpIn Fence.wide n Try.prog Q a W := by
  simp only [regOf, C17, Try.f17, Option.getD, Nat.reduceBEq, Bool.false_eq_true, if_true, if_false]
  refine region_sq (fun k_ a w => match k_ with | 0 => SR [(0, .pointer (some ⟨r, 0, none⟩)), (2, .pointer (some ⟨o2, 0, none⟩)), (3, .pointer (some ⟨o, 0, none⟩)), (4, .int .i64 k)] 30 [] (W) a w | 1 => SR [(0, .pointer (some ⟨r, 0, none⟩)), (2, .pointer (some ⟨o2, 0, none⟩)), (3, .pointer (some ⟨o, 0, none⟩)), (8, .int .i64 k)] 30 [] (W) a w | 2 => SR [(0, .pointer (some ⟨r, 0, none⟩)), (2, .pointer (some ⟨o2, 0, none⟩)), (3, .pointer (some ⟨o, 0, none⟩)), (9, .int .i64 ((k : Int) + 1))] 30 [] (W) a w | _ => SR [(0, .pointer (some ⟨r, 0, none⟩)), (2, .pointer (some ⟨o2, 0, none⟩)), (3, .pointer (some ⟨o, 0, none⟩)), (4, .int .i64 ((k : Int) + 1))] 30 [] (W) a w) (show SR _ _ _ _ a W from h0) ⟨?_, ?_, ?_, trivial⟩ ?_
  · intro a w hI
    have hI : SR _ _ _ _ a w := hI
    have e4 := hI.g 4 rfl
    have hw : w = W := hI.wp
    subst hw
    go_simp
    exact hI.put (d := 8) (by decide) (by simp)
  · intro a w hI
    have hI : SR _ _ _ _ a w := hI
    have e8 := hI.g 8 rfl
    have hw : w = W := hI.wp
    subst hw
    have hw1 : IntKind.i64.wrap ((k : Int) + 1) = (k : Int) + 1 := IntWalk.i64_in _ (by omega)
    go_simp
    exact hI.put (d := 9) (by decide) (by simp)
  · intro a w hI
    have hI : SR _ _ _ _ a w := hI
    have e9 := hI.g 9 rfl
    have hw : w = W := hI.wp
    subst hw
    go_simp
    exact hI.put (d := 4) (by decide) (by simp)
  · intro a w hI
    have hI : SR _ _ _ _ a w := hI
    have hw : w = W := hI.wp
    subst hw
    exact hQ a hI
set_option maxRecDepth 100000 in
set_option maxHeartbeats 4000000 in
theorem rk10 (n : Nat) (W : World) (o o2 : Nat) (cur : Array Value) (hl : (Instr.loadAt 39 (.pointer (some ⟨o, 0, none⟩))).run Try.prog W = .ok (.agg cur) W) (W2 : World) (hs : (Instr.storeAt 39 (.pointer (some ⟨o2, 0, none⟩)) (.agg cur)).run Try.prog W = .ok () W2) (Q : Exit → Act → World → Prop) (a : Act) (h0 : SR [(2, .pointer (some ⟨o2, 0, none⟩)), (3, .pointer (some ⟨o, 0, none⟩))] 30 [] W a W)
    (hQ : ∀ a, SR [(2, .pointer (some ⟨o2, 0, none⟩))] 30 [] (W2) a (W2) → Q .normal a (W2)) : (regOf 10 C17).wpIn Fence.wide n Try.prog Q a W := by
  simp only [regOf, C17, Try.f17, Option.getD, Nat.reduceBEq, Bool.false_eq_true, if_true, if_false]
  refine region_sq (fun k_ a w => match k_ with | 0 => SR [(2, .pointer (some ⟨o2, 0, none⟩)), (3, .pointer (some ⟨o, 0, none⟩))] 30 [] (W) a w | 1 => SR [(2, .pointer (some ⟨o2, 0, none⟩)), (29, .agg cur)] 30 [] (W) a w | _ => SR [(2, .pointer (some ⟨o2, 0, none⟩))] 30 [] (W2) a w) (show SR _ _ _ _ a W from h0) ⟨?_, ?_, trivial⟩ ?_
  · intro a w hI
    have hI : SR _ _ _ _ a w := hI
    have e3 := hI.g 3 rfl
    have hw : w = W := hI.wp
    subst hw
    rw [if_pos (by simp [Region.wanted])]
    refine operIn_load (.tmp 3) 39 rfl (.agg cur) (by rw [eval_tmp, e3]; exact hl) ?_
    exact hI.put (d := 29) (by decide) (by simp)
  · intro a w hI
    have hI : SR _ _ _ _ a w := hI
    have e2 := hI.g 2 rfl
    have e29 := hI.g 29 rfl
    have hw : w = W := hI.wp
    subst hw
    rw [if_pos (by simp [Region.wanted])]
    refine operIn_store (.tmp 2) (.tmp 29) 39 rfl rfl (by rw [eval_tmp, eval_tmp, e2, e29]; exact hs) ?_
    exact SR.sub (kn' := [(2, .pointer (some ⟨o2, 0, none⟩))]) hI.none (by intro p hp; simp only [List.mem_cons, List.not_mem_nil, or_false] at hp ⊢; simp [hp])
  · intro a w hI
    have hI : SR _ _ _ _ a w := hI
    obtain rfl := hI.wp
    exact hQ a hI
/-! ### The reference: movable cells, how many more -/
open Pf (cellK cellL mayS spotV I64 U8 Gives movR totI totB ledgV)
theorem C33_eq : C33 = .seq (regOf 0 C33) (.seq (regOf 1 C33) (.seq (.seq (regOf 2 C33) (.block 0 (.loop (.seq (.seq (regOf 3 C33) (.cond (.tmp 6) .skip (.exit 0))) (.seq (.block 1 (.seq (regOf 5 C33) (.cond (.tmp 16) (regOf 6 C33) .skip))) (regOf 4 C33)))))) (.seq (regOf 7 C33) .ret))) := by kernel_rfl
set_option maxHeartbeats 1000000 in
theorem rmov_in {r : Nat} {A B : Nat → Int} (hA : Byt A) (n : Nat) (w : World) (hr : CkW w r A B) : CallsIn Fence.wide n Try.prog 33 #[ptr r] w fun e w' => e = .returned (.int .i64 (cntM A 4096 : Nat)) ∧ Below w.heap.size w w' := by
  refine callsIn_of_wp Try.func33 rfl trivial ?_
  show C33.wpIn _ _ _ _ _ _
  rw [C33_eq]
  refine wpIn_seq (rv0 n w r _ _ ⟨by simp [Try.ntmps33], rfl, by simp [Try.ntmps33], rfl⟩ ?_)
  intro a1 h1
  refine wpIn_seq (rv1 n w r _ a1 h1 ?_)
  intro a2 h2
  refine wpIn_seq (wpIn_seq (rv2 n w r _ a2 h2 ?_))
  intro a3 h3
  refine wpIn_block (wpIn_loop (fun a w' => ∃ i, i ≤ 4096 ∧ SG [(0, ptr r), (3, .int .i64 (cntM A i : Nat)), (4, .int .i64 (i : Nat))] 20 (Below w.heap.size w) a w') (fun a _ => 4096 - slotN 4 a) ⟨0, Nat.zero_le _, h3.sg (Below.refl _ _)⟩ ?_)
  rintro a w4 ⟨i, hi, ha⟩
  have e4 := ha.slot (t := 4) (v := i) (k := .i64) (by simp)
  have hG := ha.wp
  refine wpIn_seq (wpIn_seq (rv3 n w4 r (cntM A i) i _ a ha.sr ?_))
  intro a5 h5
  have hle := cntM_le A i
  by_cases hlt : i < 4096
  · refine wpIn_cond (t := true) (by rw [eval_tmp, h5.g 6 rfl, decide_eq_true (by omega)]) (wpIn_skip (wpIn_seq (wpIn_block ?_)))
    refine wpIn_seq (rv5 n belS r (cntM A i) i _ _ hlt (fun w' hw => (hr.below hw).cell (by omega)) (fun m w' _ => Pf.c29 (hA _) m w') _ a5 w4 ((h5.sub (by simp)).sg hG) ?_)
    intro a7 w7 h7
    have hG7 := h7.wp
    have fin : ∀ a, SR [(0, ptr r), (3, .int .i64 (cntM A (i + 1) : Nat)), (4, .int .i64 (i : Nat))] 20 [] w7 a w7 → ∀ Q : Exit → Act → World → Prop, (∀ a w', (∃ i, i ≤ 4096 ∧ SG [(0, ptr r), (3, .int .i64 (cntM A i : Nat)), (4, .int .i64 (i : Nat))] 20 (Below w.heap.size w) a w') → 4096 - slotN 4 a < 4096 - i → Q .normal a w') → (regOf 4 C33).wpIn Fence.wide n Try.prog Q a w7 := by
      intro a h Q hQ
      refine rv4 n w7 r (cntM A (i + 1)) i hlt _ a h ?_
      intro a9 h9
      have h9 : SG [(0, ptr r), (3, .int .i64 (cntM A (i + 1) : Nat)), (4, .int .i64 (i + 1 : Nat))] 20 (Below w.heap.size w) a9 w7 := h9.sg hG7
      exact hQ a9 w7 ⟨i + 1, hlt, h9⟩ (by rw [h9.slot (t := 4) (v := i + 1) (k := .i64) (by simp)]; omega)
    cases hb : Sx.phiB1 1 (A (i * 2)) with
    | true =>
      have ec : cntM A (i + 1) = cntM A i + 1 := by show cntM A i + _ = _; rw [if_pos hb]
      rw [hb] at h7
      refine wpIn_cond (t := true) (by rw [eval_tmp]; exact h7.g 16 rfl) ?_
      refine rv6 n w7 r (cntM A i) i (by omega) _ a7 (h7.sub (by simp)).sr ?_
      intro a8 h8
      refine fin a8 (by rw [ec]; exact h8) _ ?_
      intro a9 w9 h9 h10
      exact ⟨h9, by rw [e4]; exact h10⟩
    | false =>
      have ec : cntM A (i + 1) = cntM A i := by show cntM A i + _ = _; rw [if_neg (by simp [hb])]; rfl
      rw [hb] at h7
      refine wpIn_cond (t := false) (by rw [eval_tmp]; exact h7.g 16 rfl) (wpIn_skip ?_)
      refine fin a7 (by rw [ec]; exact (h7.sub (by simp)).sr) _ ?_
      intro a9 w9 h9 h10
      exact ⟨h9, by rw [e4]; exact h10⟩
  · refine wpIn_cond (t := false) (by rw [eval_tmp, h5.g 6 rfl, decide_eq_false (by omega)]) (wpIn_exit ?_)
    obtain rfl : i = 4096 := by omega
    show (Code.seq (regOf 7 C33) .ret).wpIn _ _ _ _ _ _
    refine wpIn_seq (rv7 n w4 (cntM A 4096) _ a5 (h5.sub (by simp)) ?_)
    intro a6 h6
    exact wpIn_ret ⟨h6.defers, _, results_tmp (t := 2) rfl _ _ _, by rw [Array.getD_eq_getD_getElem?, h6.g 2 rfl], hG⟩
theorem C18_eq : C18 = .seq (regOf 0 C18) (.seq (.seq (regOf 1 C18) (.cond (.tmp 7) (.seq (regOf 2 C18) .ret) .skip)) (.seq (.seq (regOf 3 C18) (.cond (.tmp 10) (.seq (regOf 4 C18) .ret) .skip)) (.seq (regOf 5 C18) .ret))) := by kernel_rfl
theorem ret18 {w w0 : World} {a : Act} {s e : Int} (hs : SR [(4, .int .i64 s), (5, .int .i64 e)] 16 [] w a w) (hb : Below w0.heap.size w0 w) : bodyPost Try.prog Try.f18 (fun x w' => x = .returned (.tuple #[.int .i64 s, .int .i64 e]) ∧ Below w0.heap.size w0 w') .ret a w :=
  ⟨hs.defers, _, results_tmp2 (t := 4) (u := 5) rfl _ _ _, by rw [Array.getD_eq_getD_getElem?, Array.getD_eq_getD_getElem?, hs.g 4 rfl, hs.g 5 rfl], hb⟩
theorem rmore_all {h : Hd} (hs : okS h.sp) {w : World} (hl : h.lies w) (n : Nat) : CallsIn Fence.wide n Try.prog 18 #[.pointer h.ptr, sv h.sp] w fun e w' => e = .returned (.tuple #[.int .i64 (moreS h).1, .int .i64 (moreS h).2]) ∧ Below w.heap.size w w' := by
  obtain ⟨⟨x, y, z⟩, ck⟩ := h
  obtain ⟨hx, hy, hz⟩ := hs
  refine callsIn_of_wp Try.func18 rfl trivial ?_
  show C18.wpIn _ _ _ _ _ _
  rw [C18_eq]
  have hH := (Has.start w).alloc (.cells #[.int .i64 x, .int .i64 y, .int .i64 z] 33)
  cases ck with
  | none =>
    refine wpIn_seq (rm0n n w x y z _ _ ⟨by simp [Try.ntmps18], rfl, by simp [Try.ntmps18, Hd.ptr], rfl⟩ ?_)
    intro a1 h1
    refine wpIn_seq (wpIn_seq (rm1n n _ _ _ a1 h1 ?_))
    intro a2 h2
    refine wpIn_cond (t := true) (by rw [eval_tmp]; exact h2.g 7 rfl) (wpIn_seq ?_)
    refine rm2 n _ _ a2 (h2.sub (by simp)) ?_
    intro a3 h3
    exact wpIn_ret (ret18 h3 hH.bel)
  | some c =>
    obtain ⟨r, A⟩ := c
    obtain ⟨hA, B, hc⟩ := hl
    refine wpIn_seq (rm0p n w r x y z _ _ ⟨by simp [Try.ntmps18], rfl, by simp [Try.ntmps18, Hd.ptr], rfl⟩ ?_)
    intro a1 h1
    obtain ⟨bx, hbx⟩ : ∃ bx, bx = w.heap.size := ⟨_, rfl⟩
    rw [← hbx] at h1 hH
    refine wpIn_seq (wpIn_seq (rm1p n _ r bx _ a1 h1 ?_))
    intro a2 h2
    refine wpIn_cond (t := false) (by rw [eval_tmp]; exact h2.g 7 rfl) (wpIn_skip ?_)
    refine wpIn_seq (wpIn_seq (rm3 n (Has.stable _ _) r bx x y z (mayS x y z) (fun w hw => hw.cell0 rfl) (fun w hw => hw.cell0 rfl) (fun w hw => hw.cell0 rfl) (fun m w _ => Pf.c32 hx hy hz m w) _ a2 _ ((h2.sub (by simp)).sg hH) ?_))
    intro a3 w3 h3
    have hG3 := h3.wp
    cases hm : mayS x y z with
    | false =>
      have : moreS ⟨(x, y, z), some (r, A)⟩ = (0, 10) := by simp [moreS, hm]
      rw [this]
      refine wpIn_cond (t := true) (by rw [eval_tmp, h3.g 10 rfl, hm]; rfl) (wpIn_seq ?_)
      refine rm4 n w3 _ a3 (h3.sub (by simp)).sr ?_
      intro a4 h4
      exact wpIn_ret (ret18 h4 hG3.bel)
    | true =>
      have : moreS ⟨(x, y, z), some (r, A)⟩ = ((cntM A 4096 : Nat) - movR x y z, 0) := by simp [moreS, hm]
      rw [this]
      refine wpIn_cond (t := false) (by rw [eval_tmp, h3.g 10 rfl, hm]; rfl) (wpIn_skip ?_)
      have hcc := cntM_le A 4096
      have hb := movR_bd x y z
      refine wpIn_seq (rm5 n (Has.stable _ _) r bx _ _ (Int.natCast_nonneg _) (by omega) hb.1 hb.2 x y z (fun w hw => hw.cell0 rfl) (fun w hw => hw.cell0 rfl) (fun w hw => hw.cell0 rfl) (fun m w' hw => rmov_in hA m w' (hc.below hw.bel)) (fun m w' _ => Pf.c34 hx hy hz m w') _ a3 w3 (h3.sub (by simp)) ?_)
      intro a5 w5 h5
      exact wpIn_ret (ret18 h5.sr h5.wp.bel)
/-! ### .. how many of each kind -/
theorem C17_eq : C17 = .seq (regOf 0 C17) (.seq (regOf 1 C17) (.seq (.seq (regOf 2 C17) (.block 0 (.loop (.seq (.seq (regOf 3 C17) (.cond (.tmp 7) .skip (.exit 0))) (.seq (.block 1 (.seq (regOf 5 C17) (.block 2 (.loop (.seq (.seq (regOf 6 C17) (.cond (.tmp 11) .skip (.exit 2))) (.seq (.block 3 (.seq (regOf 8 C17) (.cond (.tmp 23) (regOf 9 C17) .skip))) (regOf 7 C17))))))) (regOf 4 C17)))))) (.seq (regOf 10 C17) .ret))) := by kernel_rfl
/-- The kinds ahead of k are counted; of kind k the cells ahead of i. -/
def kUp (A : Nat → Int) (k i : Nat) : Nat → Nat := fun j => if j < k then kdC A 4096 j else if j = k then kdC A i k else 0
theorem kUp_zero (A : Nat → Int) : kUp A 0 0 = fun _ => 0 := by
  funext j; unfold kUp
  rw [if_neg (by omega)]
  split
  · rfl
  · rfl
theorem kUp_next (A : Nat → Int) (k : Nat) : kUp A k 4096 = kUp A (k + 1) 0 := by
  funext j; unfold kUp
  by_cases h : j < k
  · rw [if_pos h, if_pos (by omega)]
  · rw [if_neg h]
    by_cases h2 : j = k
    · subst h2; rw [if_pos rfl, if_pos (by omega)]
    · rw [if_neg h2, if_neg (by omega)]
      split
      · rfl
      · rfl
theorem kUp_inc (A : Nat → Int) (k i : Nat) : (fun j => kUp A k i j + if j = k then (if A (i * 2) = (k : Int) then 1 else 0) else 0) = kUp A k (i + 1) := by
  funext j; unfold kUp
  by_cases h : j < k
  · rw [if_pos h, if_pos h, if_neg (by omega), Nat.add_zero]
  · rw [if_neg h, if_neg h]
    by_cases h2 : j = k
    · rw [if_pos h2, if_pos h2, if_pos h2]; rfl
    · rw [if_neg h2, if_neg h2, if_neg h2]
theorem arr_end (A : Nat → Int) : arrK (kUp A 15 0) = arrK (kdC A 4096) := by
  apply Array.ext_getElem?
  intro j
  by_cases hj : j < 15
  · rw [arrK_get _ hj, arrK_get _ hj]
    unfold kUp; rw [if_pos hj]
  · rw [Array.getElem?_eq_none (by rw [arrK_size]; omega), Array.getElem?_eq_none (by rw [arrK_size]; omega)]
theorem ret17 {w w0 : World} {a : Act} {o : Nat} {cur : Array Value} (hs : SR [(2, ptr o)] 30 [] w a w) (h : w.heap[o]? = some (.cells cur 39 (0, 0))) (hc : cur.size = 15) (hb : Below w0.heap.size w0 w) : bodyPost Try.prog Try.f17 (fun e w' => e = .returned (.agg cur) ∧ Below w0.heap.size w0 w') .ret a w :=
  ⟨hs.defers, _, results_cell_row (p := 2) (ty := 39) (d := .array 15 3) rfl a.tmps w o 39 cur (0, 0) (by rw [Array.getD_eq_getD_getElem?, hs.g 2 rfl]) h (by kernel_rfl) rfl (by rw [hc]; kernel_rfl), rfl, hb⟩
theorem run_st39' {w : World} {o : Nat} {cur old : Array Value} (h : w.heap[o]? = some (.cells old 39 (0, 0))) (ho : old.size = 15) (hs : cur.size = 15) (h1 : ∀ v ∈ cur.toList, v.oneCell' = true) : (Instr.storeAt 39 (ptr o) (.agg cur)).run Try.prog w = .ok () (w.setRow o cur) := by
  have := Sx.run_store_of (P := Try.prog) (w := w) (g := o) (o := 0) (t := 39) (v := .agg cur) (vs := cur.toList) (by simp [Value.cells]) (by rw [Array.length_toList, hs]; kernel_rfl) h (by simp [hs, ho]) h1
  have e : (List.take 0 old.toList ++ cur.toList ++ List.drop (0 + cur.toList.length) old.toList).toArray = cur := by rw [List.take_zero, List.nil_append, List.drop_eq_nil_of_le (by simp [hs, ho]), List.append_nil]
  rw [this, e]
set_option maxHeartbeats 2000000 in
theorem rkinds_in {r : Nat} {A B : Nat → Int} (hA : Byt A) (n : Nat) (w : World) (hr : CkW w r A B) : CallsIn Fence.wide n Try.prog 17 #[ptr r] w fun e w' => e = .returned (.agg (arrK (kdC A 4096))) ∧ Below w.heap.size w w' := by
  refine callsIn_of_wp Try.func17 rfl trivial ?_
  show C17.wpIn _ _ _ _ _ _
  rw [C17_eq]
  refine wpIn_seq (rk0 n w r _ _ ⟨by simp [Try.ntmps17], rfl, by simp [Try.ntmps17], rfl⟩ ?_)
  intro a1 h1
  have hH1 := (Has.start w).alloc (.cells zr15 39)
  obtain ⟨o2, ho2⟩ : ∃ o, o = w.heap.size := ⟨_, rfl⟩
  obtain ⟨w1, hw1⟩ : ∃ w1, w1 = w.alloc (.cells zr15 39) := ⟨_, rfl⟩
  rw [← hw1] at h1 hH1 ⊢
  rw [← ho2] at h1 hH1
  refine wpIn_seq (rk1 n w1 r o2 _ a1 h1 ?_)
  intro a2 h2
  have hH2 := hH1.alloc (.cells zr15 39)
  obtain ⟨o, ho⟩ : ∃ o, o = w1.heap.size := ⟨_, rfl⟩
  obtain ⟨w2, hw2⟩ : ∃ w2, w2 = w1.alloc (.cells zr15 39) := ⟨_, rfl⟩
  rw [← hw2] at h2 hH2 ⊢
  rw [← ho] at h2 hH2
  refine wpIn_seq (wpIn_seq (rk2 n w2 r o2 o _ a2 h2 ?_))
  intro a3 h3
  rw [zr15_eq, ← kUp_zero A] at hH2
  refine wpIn_block (wpIn_loop (fun a w' => ∃ k, k ≤ 15 ∧ SG [(0, ptr r), (2, ptr o2), (3, ptr o), (4, .int .i64 (k : Nat))] 30 (Has w [(o, .cells (arrK (kUp A k 0)) 39 (0, 0)), (o2, .cells (arrK (kUp A 0 0)) 39 (0, 0))]) a w') (fun a _ => 15 - slotN 4 a) ⟨0, Nat.zero_le _, h3.sg hH2⟩ ?_)
  rintro a w4 ⟨k, hk, ha⟩
  have e4 := ha.slot (t := 4) (v := k) (k := .i64) (by simp)
  have hG := ha.wp
  refine wpIn_seq (wpIn_seq (rk3 n w4 r o2 o k _ a ha.sr ?_))
  intro a5 h5
  by_cases hlt : k < 15
  · refine wpIn_cond (t := true) (by rw [eval_tmp, h5.g 7 rfl, decide_eq_true (by omega)]) (wpIn_skip (wpIn_seq (wpIn_block ?_)))
    refine wpIn_seq (rk5 n w4 r o2 o k _ a5 (h5.sub (by simp)) ?_)
    intro a6 h6
    refine wpIn_block (wpIn_loop (fun a w' => ∃ i, i ≤ 4096 ∧ SG [(0, ptr r), (2, ptr o2), (3, ptr o), (4, .int .i64 (k : Nat)), (5, .int .i64 (i : Nat))] 30 (Has w [(o, .cells (arrK (kUp A k i)) 39 (0, 0)), (o2, .cells (arrK (kUp A 0 0)) 39 (0, 0))]) a w') (fun a _ => 4096 - slotN 5 a) ⟨0, Nat.zero_le _, h6.sg hG⟩ ?_)
    rintro a w6 ⟨i, hi, ha6⟩
    have e5 := ha6.slot (t := 5) (v := i) (k := .i64) (by simp)
    have hG6 := ha6.wp
    refine wpIn_seq (wpIn_seq (rk6 n w6 r o2 o k i _ a ha6.sr ?_))
    intro a7 h7
    by_cases hlt2 : i < 4096
    · refine wpIn_cond (t := true) (by rw [eval_tmp, h7.g 11 rfl, decide_eq_true (by omega)]) (wpIn_skip (wpIn_seq (wpIn_block ?_)))
      have hv := hA (i * 2)
      obtain ⟨v, hv1⟩ : ∃ v : Nat, A (i * 2) = v := ⟨(A (i * 2)).toNat, by have := hv.1; omega⟩
      have hv2 : v < 256 := by have := hv.2; omega
      refine wpIn_seq (rk8 n w6 r o2 o k i v hv2 hlt2 (by rw [← hv1]; exact (hr.below hG6.bel).cell (by omega)) _ a7 (h7.sub (by simp)) ?_)
      intro a8 h8
      have fin : ∀ a w', SR [(0, ptr r), (2, ptr o2), (3, ptr o), (4, .int .i64 (k : Nat)), (5, .int .i64 (i : Nat))] 30 [] w' a w' → Has w [(o, .cells (arrK (kUp A k (i + 1))) 39 (0, 0)), (o2, .cells (arrK (kUp A 0 0)) 39 (0, 0))] w' → ∀ Q : Exit → Act → World → Prop, (∀ a w', (∃ i, i ≤ 4096 ∧ SG [(0, ptr r), (2, ptr o2), (3, ptr o), (4, .int .i64 (k : Nat)), (5, .int .i64 (i : Nat))] 30 (Has w [(o, .cells (arrK (kUp A k i)) 39 (0, 0)), (o2, .cells (arrK (kUp A 0 0)) 39 (0, 0))]) a w') → 4096 - slotN 5 a < 4096 - i → Q .normal a w') → (regOf 7 C17).wpIn Fence.wide n Try.prog Q a w' := by
        intro a w' h hh Q hQ
        refine rk7 n w' r o2 o k i hlt2 _ a h ?_
        intro a9 h9
        have h9 : SG [(0, ptr r), (2, ptr o2), (3, ptr o), (4, .int .i64 (k : Nat)), (5, .int .i64 (i + 1 : Nat))] 30 (Has w [(o, .cells (arrK (kUp A k (i + 1))) 39 (0, 0)), (o2, .cells (arrK (kUp A 0 0)) 39 (0, 0))]) a9 w' := h9.sg hh
        exact hQ a9 w' ⟨i + 1, hlt2, h9⟩ (by rw [h9.slot (t := 5) (v := i + 1) (k := .i64) (by simp)]; omega)
      have hle : kUp A k i k ≤ 4096 := by unfold kUp; rw [if_neg (by omega), if_pos rfl]; have := kdC_le A k i; omega
      have hinc := kUp_inc A k i
      by_cases hvk : v = k
      · refine wpIn_cond (t := true) (by rw [eval_tmp, h8.g 23 rfl, hvk]; simp) ?_
        refine rk9 n w6 r o2 o k i (kUp A k i k) (by omega) hlt hG6.free (hG6.cell0 (arrK_get _ hlt)) (hG6.cell0 (arrK_get _ hlt)) _ a8 (h8.sub (by simp)) ?_
        intro a9 h9
        have hG9 := hG6.set (m := k) (.int .i64 ((kUp A k i k : Nat) + 1))
        rw [arrK_set (kUp A k i) k rfl] at hG9
        rw [if_pos (by rw [hv1, hvk])] at hinc
        rw [hinc] at hG9
        refine fin a9 _ h9 hG9 _ ?_
        intro a10 w10 h10 h11
        exact ⟨h10, by rw [e5]; exact h11⟩
      · refine wpIn_cond (t := false) (by rw [eval_tmp, h8.g 23 rfl]; simp; omega) (wpIn_skip ?_)
        rw [if_neg (by rw [hv1]; omega)] at hinc
        have hinc2 : kUp A k i = kUp A k (i + 1) := by rw [← hinc]; funext j; split <;> rfl
        rw [hinc2] at hG6
        refine fin a8 _ (h8.sub (by simp)) hG6 _ ?_
        intro a10 w10 h10 h11
        exact ⟨h10, by rw [e5]; exact h11⟩
    · refine wpIn_cond (t := false) (by rw [eval_tmp, h7.g 11 rfl, decide_eq_false (by omega)]) (wpIn_exit ?_)
      obtain rfl : i = 4096 := by omega
      show (regOf 4 C17).wpIn _ _ _ _ _ _
      rw [kUp_next] at hG6
      refine rk4 n w6 r o2 o k hlt _ a7 (h7.sub (by simp)) ?_
      intro a8 h8
      have h8 : SG [(0, ptr r), (2, ptr o2), (3, ptr o), (4, .int .i64 (k + 1 : Nat))] 30 (Has w [(o, .cells (arrK (kUp A (k + 1) 0)) 39 (0, 0)), (o2, .cells (arrK (kUp A 0 0)) 39 (0, 0))]) a8 w6 := h8.sg hG6
      exact ⟨⟨k + 1, hlt, h8⟩, by rw [e4, h8.slot (t := 4) (v := k + 1) (k := .i64) (by simp)]; omega⟩
  · refine wpIn_cond (t := false) (by rw [eval_tmp, h5.g 7 rfl, decide_eq_false (by omega)]) (wpIn_exit ?_)
    obtain rfl : k = 15 := by omega
    rw [arr_end] at hG
    show (Code.seq (regOf 10 C17) .ret).wpIn _ _ _ _ _ _
    have hst := run_st39' (o := o2) (cur := arrK (kdC A 4096)) hG.swap.at0 (arrK_size _) (arrK_size _) (arrK_one _)
    refine wpIn_seq (rk10 n w4 o o2 _ (run_ld39 hG.at0 (arrK_size _)) _ hst _ a5 (h5.sub (by simp)) ?_)
    intro a6 h6
    exact wpIn_ret (ret17 h6 (setRow_heap w4 o2 _ _ 39 (0, 0) hG.swap.at0) (arrK_size _) (below_setRow hG.bel (hG.swap.new (o2, _) List.mem_cons_self) _))
end Go.Proofs.Ytigblagodlfedaa
