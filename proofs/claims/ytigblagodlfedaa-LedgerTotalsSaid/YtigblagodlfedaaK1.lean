/- Glow: the walk of a law. -/
import Derived.RangeFuncNested
import Derived.RangeFuncBound
import Derived.RangeFuncCalls
import Derived.RangeFuncLeaves
import Derived.Shelf.Abstract
import Derived.Shelf.RegionOpen
import Derived.WalkKit
import Derived.OwnWalkIn
import Derived.TacticsInMore
import Derived.LoopNIn
import Derived.LoopIn
import Derived.Lib.Hide
import Derived.IntWalk
import Derived.Maps.AppendAt
import Derived.Test.YtigblagodlfedaaHand
import Derived.Test.YtigblagodlfedaaPf
set_option linter.unusedVariables false
set_option linter.unusedSimpArgs false
namespace Go.Proofs.Ytigblagodlfedaa
open Go.RowKit Go.Shelf
attribute [local go_sem] Oper.semAt_some

noncomputable def Z49 : Array Value := (((Try.prog.info? 49).bind (·.zero)).getD undef).cells
noncomputable def C25 : Code := Try.f25.body.getD .skip
set_option maxRecDepth 100000 in
set_option maxHeartbeats 4000000 in
theorem nw0 (n : Nat) (W : World)  (Q : Exit → Act → World → Prop) (a : Act) (h0 : SR [] 2 [] W a W)
    (hQ : ∀ a, SR [] 2 [] (W) a (W) → Q .normal a (W)) : (regOf 0 C25).wpIn Fence.wide n Try.prog Q a W := by
  simp only [regOf, C25, Try.f25, Option.getD, Nat.reduceBEq, Bool.false_eq_true, if_true, if_false]
  refine region_sq (fun k_ a w => match k_ with | 0 => SR [] 2 [] (W) a w | _ => SR [] 2 [] (W) a w) (show SR _ _ _ _ a W from h0) ⟨?_, trivial⟩ ?_
  · intro a w hI
    have hI : SR _ _ _ _ a w := hI
    have hw : w = W := hI.wp
    subst hw
    go_simp
    exact hI.put (d := 0) (by decide) (by simp)
  · intro a w hI
    have hI : SR _ _ _ _ a w := hI
    have hw : w = W := hI.wp
    subst hw
    exact hQ a hI
set_option maxRecDepth 100000 in
set_option maxHeartbeats 4000000 in
theorem nw1 (n : Nat) (W : World)  (Q : Exit → Act → World → Prop) (a : Act) (h0 : SR [] 2 [] W a W)
    (hQ : ∀ a, SR [(0, .pointer (some ⟨W.heap.size, 0, none⟩))] 2 [] (W.alloc (.cells Z49 49)) a (W.alloc (.cells Z49 49)) → Q .normal a (W.alloc (.cells Z49 49))) : (regOf 1 C25).wpIn Fence.wide n Try.prog Q a W := by
  simp only [regOf, C25, Try.f25, Option.getD, Nat.reduceBEq, Bool.false_eq_true, if_true, if_false]
  refine region_sq (fun k_ a w => match k_ with | 0 => SR [] 2 [] (W) a w | 1 => SR [(1, .pointer (some ⟨W.heap.size, 0, none⟩))] 2 [] (W.alloc (.cells Z49 49)) a w | _ => SR [(0, .pointer (some ⟨W.heap.size, 0, none⟩))] 2 [] (W.alloc (.cells Z49 49)) a w) (show SR _ _ _ _ a W from h0) ⟨?_, ?_, trivial⟩ ?_
  · intro a w hI
    have hI : SR _ _ _ _ a w := hI
    have hw : w = W := hI.wp
    subst hw
    go_simp
    exact hI.put (d := 1) (by decide) (by simp)
  · intro a w hI
    have hI : SR _ _ _ _ a w := hI
    have e1 := hI.g 1 rfl
    obtain rfl := hI.wp
    go_simp
    exact hI.put (d := 0) (by decide) (by simp)
  · intro a w hI
    have hI : SR _ _ _ _ a w := hI
    obtain rfl := hI.wp
    exact hQ a hI
noncomputable def C24 : Code := Try.f24.body.getD .skip
set_option maxRecDepth 100000 in
set_option maxHeartbeats 4000000 in
theorem lc0 (n : Nat) (W : World) (x y z : Int)  (Q : Exit → Act → World → Prop) (a : Act) (h0 : SR [(0, .agg #[.int .i64 x, .int .i64 y, .int .i64 z])] 36 [] W a W)
    (hQ : ∀ a, SR [(1, .pointer (some ⟨W.heap.size, 0, none⟩))] 36 [] (W.alloc (.cells #[.int .i64 x, .int .i64 y, .int .i64 z] 33)) a (W.alloc (.cells #[.int .i64 x, .int .i64 y, .int .i64 z] 33)) → Q .normal a (W.alloc (.cells #[.int .i64 x, .int .i64 y, .int .i64 z] 33))) : (regOf 0 C24).wpIn Fence.wide n Try.prog Q a W := by
  simp only [regOf, C24, Try.f24, Option.getD, Nat.reduceBEq, Bool.false_eq_true, if_true, if_false]
  refine region_sq (fun k_ a w => match k_ with | 0 => SR [(0, .agg #[.int .i64 x, .int .i64 y, .int .i64 z])] 36 [] (W) a w | 1 => SR [(1, .pointer (some ⟨W.heap.size, 0, none⟩))] 36 [] (W.alloc (.cells #[.int .i64 x, .int .i64 y, .int .i64 z] 33)) a w | 2 => SR [(1, .pointer (some ⟨W.heap.size, 0, none⟩))] 36 [] (W.alloc (.cells #[.int .i64 x, .int .i64 y, .int .i64 z] 33)) a w | _ => SR [(1, .pointer (some ⟨W.heap.size, 0, none⟩))] 36 [] (W.alloc (.cells #[.int .i64 x, .int .i64 y, .int .i64 z] 33)) a w) (show SR _ _ _ _ a W from h0) ⟨?_, ?_, ?_, trivial⟩ ?_
  · intro a w hI
    have hI : SR _ _ _ _ a w := hI
    have e0 := hI.g 0 rfl
    have hw : w = W := hI.wp
    subst hw
    go_simp
    exact hI.put (d := 1) (by decide) (by simp)
  · intro a w hI
    have hI : SR _ _ _ _ a w := hI
    obtain rfl := hI.wp
    go_simp
    exact hI.put (d := 2) (by decide) (by simp)
  · intro a w hI
    have hI : SR _ _ _ _ a w := hI
    obtain rfl := hI.wp
    go_simp
    exact hI.put (d := 3) (by decide) (by simp)
  · intro a w hI
    have hI : SR _ _ _ _ a w := hI
    obtain rfl := hI.wp
    exact hQ a hI
set_option maxRecDepth 100000 in
set_option maxHeartbeats 4000000 in
theorem lc1 (n : Nat) {G : World → Prop} (hS : Stable G) (bx : Nat) (x y z : Int) (mb : Bool) (k0 : ∀ w, G w → w.cell? ⟨bx, 0, none⟩ = some (.int .i64 x)) (k1 : ∀ w, G w → w.cell? ⟨bx, 1, none⟩ = some (.int .i64 y)) (k2 : ∀ w, G w → w.cell? ⟨bx, 2, none⟩ = some (.int .i64 z)) (hm : ∀ m w, G w → CallsIn Fence.wide m Try.prog 36 #[.agg #[.int .i64 x, .int .i64 y, .int .i64 z]] w fun e w' => e = .returned (.bool mb) ∧ Below w.heap.size w w') (Q : Exit → Act → World → Prop) (a : Act) (w : World) (h0 : SG [(1, .pointer (some ⟨bx, 0, none⟩))] 36 G a w)
    (hQ : ∀ a w, SG [(1, .pointer (some ⟨bx, 0, none⟩)), (9, .bool (!mb))] 36 G a w → Q .normal a w) : (regOf 1 C24).wpIn Fence.wide n Try.prog Q a w := by
  simp only [regOf, C24, Try.f24, Option.getD, Nat.reduceBEq, Bool.false_eq_true, if_true, if_false]
  refine region_sq (fun k_ a w => match k_ with | 0 => SG [(1, .pointer (some ⟨bx, 0, none⟩))] 36 G a w | 1 => SG [(1, .pointer (some ⟨bx, 0, none⟩)), (7, .agg #[.int .i64 x, .int .i64 y, .int .i64 z])] 36 G a w | 2 => SG [(1, .pointer (some ⟨bx, 0, none⟩)), (8, .bool mb)] 36 G a w | _ => SG [(1, .pointer (some ⟨bx, 0, none⟩)), (9, .bool (!mb))] 36 G a w) (show SG _ _ G a w from h0) ⟨?_, ?_, ?_, trivial⟩ ?_
  · intro a w hI
    have hI : SG _ _ G a w := hI
    have e1 := hI.g 1 rfl
    have cc0 := k0 w hI.wp
    have cc1 := k1 w hI.wp
    have cc2 := k2 w hI.wp
    go_simp
    exact hI.put (d := 7) (by decide) (by simp) hI.wp
  · intro a w hI
    have hI : SG _ _ G a w := hI
    have e7 := hI.g 7 rfl
    go_simp
    refine ⟨trivial, fun h => (by cases h), (hm (n - 1) w hI.wp).mono ?_⟩
    rintro e w' ⟨rfl, hb2⟩
    exact hI.put (d := 8) (by decide) (by simp) (hS _ _ hI.wp hb2)
  · intro a w hI
    have hI : SG _ _ G a w := hI
    have e8 := hI.g 8 rfl
    go_simp
    exact hI.put (d := 9) (by decide) (by simp) hI.wp
  · intro a w hI
    have hI : SG _ _ G a w := hI
    exact hQ a w hI
set_option maxRecDepth 100000 in
set_option maxHeartbeats 4000000 in
theorem lc2 (n : Nat) (W : World)  (Q : Exit → Act → World → Prop) (a : Act) (h0 : SR [] 36 [] W a W)
    (hQ : ∀ a, SR [(2, Value.pointer none), (3, .bool false)] 36 [] (W) a (W) → Q .normal a (W)) : (regOf 2 C24).wpIn Fence.wide n Try.prog Q a W := by
  simp only [regOf, C24, Try.f24, Option.getD, Nat.reduceBEq, Bool.false_eq_true, if_true, if_false]
  refine region_sq (fun k_ a w => match k_ with | 0 => SR [] 36 [] (W) a w | 1 => SR [(2, Value.pointer none)] 36 [] (W) a w | _ => SR [(2, Value.pointer none), (3, .bool false)] 36 [] (W) a w) (show SR _ _ _ _ a W from h0) ⟨?_, ?_, trivial⟩ ?_
  · intro a w hI
    have hI : SR _ _ _ _ a w := hI
    have hw : w = W := hI.wp
    subst hw
    go_simp
    exact hI.put (d := 2) (by decide) (by simp)
  · intro a w hI
    have hI : SR _ _ _ _ a w := hI
    have hw : w = W := hI.wp
    subst hw
    go_simp
    exact hI.put (d := 3) (by decide) (by simp)
  · intro a w hI
    have hI : SR _ _ _ _ a w := hI
    have hw : w = W := hI.wp
    subst hw
    exact hQ a hI
set_option maxRecDepth 100000 in
set_option maxHeartbeats 4000000 in
theorem lc3 (n : Nat) {G : World → Prop} (bx : Nat) (G1 : Nat → World → Prop) (hc : ∀ m w, G w → CallsIn Fence.wide m Try.prog 25 #[] w fun e w' => ∃ (r : Nat), e = .returned (.pointer (some ⟨r, 0, none⟩)) ∧ (G1 r) w') (Q : Exit → Act → World → Prop) (a : Act) (w : World) (h0 : SG [(1, .pointer (some ⟨bx, 0, none⟩))] 36 G a w)
    (hQ : ∀ (r : Nat) a w, SG [(1, .pointer (some ⟨bx, 0, none⟩)), (4, .pointer (some ⟨r, 0, none⟩))] 36 (G1 r) a w → Q .normal a w) : (regOf 3 C24).wpIn Fence.wide n Try.prog Q a w := by
  simp only [regOf, C24, Try.f24, Option.getD, Nat.reduceBEq, Bool.false_eq_true, if_true, if_false]
  refine region_sq (fun k_ a w => match k_ with | 0 => SG [(1, .pointer (some ⟨bx, 0, none⟩))] 36 G a w | 1 => ∃ (r : Nat), SG [(1, .pointer (some ⟨bx, 0, none⟩)), (10, .pointer (some ⟨r, 0, none⟩))] 36 (G1 r) a w | _ => ∃ (r : Nat), SG [(1, .pointer (some ⟨bx, 0, none⟩)), (4, .pointer (some ⟨r, 0, none⟩))] 36 (G1 r) a w) (show SG _ _ G a w from h0) ⟨?_, ?_, trivial⟩ ?_
  · intro a w hI
    have hI : SG _ _ G a w := hI
    go_simp
    refine ⟨trivial, fun h => (by cases h), (hc (n - 1) w hI.wp).mono ?_⟩
    rintro e w' ⟨r, rfl, hg2⟩
    exact ⟨r, hI.put (d := 10) (by decide) (by simp) hg2⟩
  · rintro a w ⟨r, hI⟩
    have e10 := hI.g 10 rfl
    go_simp
    exact ⟨r, hI.put (d := 4) (by decide) (by simp) hI.wp⟩
  · rintro a w ⟨r, hI⟩
    exact hQ r a w hI
set_option maxRecDepth 100000 in
set_option maxHeartbeats 4000000 in
theorem lc4 (n : Nat) (W : World) (bx r : Nat)  (Q : Exit → Act → World → Prop) (a : Act) (h0 : SR [(1, .pointer (some ⟨bx, 0, none⟩)), (4, .pointer (some ⟨r, 0, none⟩))] 36 [] W a W)
    (hQ : ∀ a, SR [(1, .pointer (some ⟨bx, 0, none⟩)), (4, .pointer (some ⟨r, 0, none⟩)), (11, .int .i64 0)] 36 [] (W) a (W) → Q .normal a (W)) : (regOf 4 C24).wpIn Fence.wide n Try.prog Q a W := by
  simp only [regOf, C24, Try.f24, Option.getD, Nat.reduceBEq, Bool.false_eq_true, if_true, if_false]
  refine region_sq (fun k_ a w => match k_ with | 0 => SR [(1, .pointer (some ⟨bx, 0, none⟩)), (4, .pointer (some ⟨r, 0, none⟩))] 36 [] (W) a w | _ => SR [(1, .pointer (some ⟨bx, 0, none⟩)), (4, .pointer (some ⟨r, 0, none⟩)), (11, .int .i64 0)] 36 [] (W) a w) (show SR _ _ _ _ a W from h0) ⟨?_, trivial⟩ ?_
  · intro a w hI
    have hI : SR _ _ _ _ a w := hI
    have hw : w = W := hI.wp
    subst hw
    go_simp
    exact hI.put (d := 11) (by decide) (by simp)
  · intro a w hI
    have hI : SR _ _ _ _ a w := hI
    have hw : w = W := hI.wp
    subst hw
    exact hQ a hI
set_option maxRecDepth 100000 in
set_option maxHeartbeats 4000000 in
theorem lc5 (n : Nat) (W : World) (bx r : Nat) (i : Nat) (Q : Exit → Act → World → Prop) (a : Act) (h0 : SR [(1, .pointer (some ⟨bx, 0, none⟩)), (4, .pointer (some ⟨r, 0, none⟩)), (11, .int .i64 i)] 36 [] W a W)
    (hQ : ∀ a, SR [(1, .pointer (some ⟨bx, 0, none⟩)), (4, .pointer (some ⟨r, 0, none⟩)), (11, .int .i64 i), (12, .bool (decide ((i : Int) < 4096)))] 36 [] (W) a (W) → Q .normal a (W)) : (regOf 5 C24).wpIn Fence.wide n Try.prog Q a W := by
  simp only [regOf, C24, Try.f24, Option.getD, Nat.reduceBEq, Bool.false_eq_true, if_true, if_false]
  refine region_sq (fun k_ a w => match k_ with | 0 => SR [(1, .pointer (some ⟨bx, 0, none⟩)), (4, .pointer (some ⟨r, 0, none⟩)), (11, .int .i64 i)] 36 [] (W) a w | _ => SR [(1, .pointer (some ⟨bx, 0, none⟩)), (4, .pointer (some ⟨r, 0, none⟩)), (11, .int .i64 i), (12, .bool (decide ((i : Int) < 4096)))] 36 [] (W) a w) (show SR _ _ _ _ a W from h0) ⟨?_, trivial⟩ ?_
  · intro a w hI
    have hI : SR _ _ _ _ a w := hI
    have e11 := hI.g 11 rfl
    have hw : w = W := hI.wp
    subst hw
    go_simp
    exact hI.put (d := 12) (by decide) (by simp)
  · intro a w hI
    have hI : SR _ _ _ _ a w := hI
    have hw : w = W := hI.wp
    subst hw
    exact hQ a hI
set_option maxRecDepth 100000 in
set_option maxHeartbeats 4000000 in
theorem lc6 (n : Nat) (W : World) (bx r : Nat) (i : Nat) (Q : Exit → Act → World → Prop) (a : Act) (h0 : SR [(1, .pointer (some ⟨bx, 0, none⟩)), (4, .pointer (some ⟨r, 0, none⟩)), (11, .int .i64 i)] 36 [] W a W)
    (hQ : ∀ a, SR [(1, .pointer (some ⟨bx, 0, none⟩)), (4, .pointer (some ⟨r, 0, none⟩)), (11, .int .i64 i), (5, .int .i64 i)] 36 [] (W) a (W) → Q .normal a (W)) : (regOf 6 C24).wpIn Fence.wide n Try.prog Q a W := by
  simp only [regOf, C24, Try.f24, Option.getD, Nat.reduceBEq, Bool.false_eq_true, if_true, if_false]
  refine region_sq (fun k_ a w => match k_ with | 0 => SR [(1, .pointer (some ⟨bx, 0, none⟩)), (4, .pointer (some ⟨r, 0, none⟩)), (11, .int .i64 i)] 36 [] (W) a w | 1 => SR [(1, .pointer (some ⟨bx, 0, none⟩)), (4, .pointer (some ⟨r, 0, none⟩)), (11, .int .i64 i), (13, .int .i64 i)] 36 [] (W) a w | _ => SR [(1, .pointer (some ⟨bx, 0, none⟩)), (4, .pointer (some ⟨r, 0, none⟩)), (11, .int .i64 i), (5, .int .i64 i)] 36 [] (W) a w) (show SR _ _ _ _ a W from h0) ⟨?_, ?_, trivial⟩ ?_
  · intro a w hI
    have hI : SR _ _ _ _ a w := hI
    have e11 := hI.g 11 rfl
    have hw : w = W := hI.wp
    subst hw
    go_simp
    exact hI.put (d := 13) (by decide) (by simp)
  · intro a w hI
    have hI : SR _ _ _ _ a w := hI
    have e13 := hI.g 13 rfl
    have hw : w = W := hI.wp
    subst hw
    go_simp
    exact hI.put (d := 5) (by decide) (by simp)
  · intro a w hI
    have hI : SR _ _ _ _ a w := hI
    have hw : w = W := hI.wp
    subst hw
    exact hQ a hI
set_option maxRecDepth 100000 in
set_option maxHeartbeats 4000000 in
theorem lc7 (n : Nat) (W : World) (bx r : Nat) (i : Nat) (y : Int) (hy0 : 0 ≤ y) (hy1 : y < 4) (hi : i < 4096) (k1 : W.cell? ⟨bx, 1, none⟩ = some (.int .i64 y)) (Q : Exit → Act → World → Prop) (a : Act) (h0 : SR [(1, .pointer (some ⟨bx, 0, none⟩)), (4, .pointer (some ⟨r, 0, none⟩)), (11, .int .i64 i), (5, .int .i64 i)] 36 [] W a W)
    (hQ : ∀ a, SR [(1, .pointer (some ⟨bx, 0, none⟩)), (4, .pointer (some ⟨r, 0, none⟩)), (11, .int .i64 i), (5, .int .i64 i), (6, .int .i64 ((((y : Int) * 16) : Int) + ((i : Int) / 256)))] 36 [] (W) a (W) → Q .normal a (W)) : (regOf 7 C24).wpIn Fence.wide n Try.prog Q a W := by
  simp only [regOf, C24, Try.f24, Option.getD, Nat.reduceBEq, Bool.false_eq_true, if_true, if_false]
  refine region_sq (fun k_ a w => match k_ with | 0 => SR [(1, .pointer (some ⟨bx, 0, none⟩)), (4, .pointer (some ⟨r, 0, none⟩)), (11, .int .i64 i), (5, .int .i64 i)] 36 [] (W) a w | 1 => SR [(1, .pointer (some ⟨bx, 0, none⟩)), (4, .pointer (some ⟨r, 0, none⟩)), (11, .int .i64 i), (5, .int .i64 i), (14, .pointer (some ⟨bx, 1, none⟩))] 36 [] (W) a w | 2 => SR [(1, .pointer (some ⟨bx, 0, none⟩)), (4, .pointer (some ⟨r, 0, none⟩)), (11, .int .i64 i), (5, .int .i64 i), (15, .int .i64 y)] 36 [] (W) a w | 3 => SR [(1, .pointer (some ⟨bx, 0, none⟩)), (4, .pointer (some ⟨r, 0, none⟩)), (11, .int .i64 i), (5, .int .i64 i), (16, .int .i64 ((y : Int) * 16))] 36 [] (W) a w | 4 => SR [(1, .pointer (some ⟨bx, 0, none⟩)), (4, .pointer (some ⟨r, 0, none⟩)), (11, .int .i64 i), (5, .int .i64 i), (16, .int .i64 ((y : Int) * 16)), (17, .int .i64 i)] 36 [] (W) a w | 5 => SR [(1, .pointer (some ⟨bx, 0, none⟩)), (4, .pointer (some ⟨r, 0, none⟩)), (11, .int .i64 i), (5, .int .i64 i), (16, .int .i64 ((y : Int) * 16)), (18, .int .i64 ((i : Int) / 256))] 36 [] (W) a w | 6 => SR [(1, .pointer (some ⟨bx, 0, none⟩)), (4, .pointer (some ⟨r, 0, none⟩)), (11, .int .i64 i), (5, .int .i64 i), (19, .int .i64 ((((y : Int) * 16) : Int) + ((i : Int) / 256)))] 36 [] (W) a w | _ => SR [(1, .pointer (some ⟨bx, 0, none⟩)), (4, .pointer (some ⟨r, 0, none⟩)), (11, .int .i64 i), (5, .int .i64 i), (6, .int .i64 ((((y : Int) * 16) : Int) + ((i : Int) / 256)))] 36 [] (W) a w) (show SR _ _ _ _ a W from h0) ⟨?_, ?_, ?_, ?_, ?_, ?_, ?_, trivial⟩ ?_
  · intro a w hI
    have hI : SR _ _ _ _ a w := hI
    have e1 := hI.g 1 rfl
    have hw : w = W := hI.wp
    subst hw
    go_simp
    exact hI.put (d := 14) (by decide) (by simp)
  · intro a w hI
    have hI : SR _ _ _ _ a w := hI
    have e14 := hI.g 14 rfl
    have hw : w = W := hI.wp
    subst hw
    go_simp
    exact hI.put (d := 15) (by decide) (by simp)
  · intro a w hI
    have hI : SR _ _ _ _ a w := hI
    have e15 := hI.g 15 rfl
    have hw : w = W := hI.wp
    subst hw
    have hw2 : IntKind.i64.wrap ((y : Int) * 16) = (y : Int) * 16 := IntWalk.i64_in _ (by omega)
    go_simp
    exact hI.put (d := 16) (by decide) (by simp)
  · intro a w hI
    have hI : SR _ _ _ _ a w := hI
    have e5 := hI.g 5 rfl
    have hw : w = W := hI.wp
    subst hw
    go_simp
    exact hI.put (d := 17) (by decide) (by simp)
  · intro a w hI
    have hI : SR _ _ _ _ a w := hI
    have e17 := hI.g 17 rfl
    have hw : w = W := hI.wp
    subst hw
    have hw4 : IntKind.i64.wrap ((i : Int) / 256) = (i : Int) / 256 := IntWalk.i64_in _ (by omega)
    go_simp
    exact hI.put (d := 18) (by decide) (by simp)
  · intro a w hI
    have hI : SR _ _ _ _ a w := hI
    have e16 := hI.g 16 rfl
    have e18 := hI.g 18 rfl
    have hw : w = W := hI.wp
    subst hw
    have hw5 : IntKind.i64.wrap ((((y : Int) * 16) : Int) + ((i : Int) / 256)) = (((y : Int) * 16) : Int) + ((i : Int) / 256) := IntWalk.i64_in _ (by omega)
    go_simp
    exact hI.put (d := 19) (by decide) (by simp)
  · intro a w hI
    have hI : SR _ _ _ _ a w := hI
    have e19 := hI.g 19 rfl
    have hw : w = W := hI.wp
    subst hw
    go_simp
    exact hI.put (d := 6) (by decide) (by simp)
  · intro a w hI
    have hI : SR _ _ _ _ a w := hI
    have hw : w = W := hI.wp
    subst hw
    exact hQ a hI
set_option maxRecDepth 100000 in
set_option maxHeartbeats 4000000 in
theorem lc8 (n : Nat) {G G1 : World → Prop} (hS : Stable G) (bx r : Nat) (i : Nat) (yy k v : Int) (hi : i < 4096) (hc : ∀ m w, G w → CallsIn Fence.wide m Try.prog 37 #[.int .i64 yy] w fun e w' => e = .returned (.agg #[.int .u8 k, .int .u8 v]) ∧ Below w.heap.size w w') (cw : ∀ w, G w → (∃ v, w.cell? ⟨r, i * 2, none⟩ = some v) ∧ ∃ v, w.cell? ⟨r, i * 2 + 1, none⟩ = some v) (fw : ∀ w, G w → w.frozen? ⟨r, i * 2, none⟩ = false ∧ w.frozen? ⟨r, i * 2 + 1, none⟩ = false) (hst : ∀ w, G w → G1 ((w.setCell ⟨r, i * 2, none⟩ (.int .u8 k)).setCell ⟨r, i * 2 + 1, none⟩ (.int .u8 v))) (Q : Exit → Act → World → Prop) (a : Act) (w : World) (h0 : SG [(1, .pointer (some ⟨bx, 0, none⟩)), (4, .pointer (some ⟨r, 0, none⟩)), (11, .int .i64 i), (5, .int .i64 i), (6, .int .i64 yy)] 36 G a w)
    (hQ : ∀ a w, SG [(1, .pointer (some ⟨bx, 0, none⟩)), (4, .pointer (some ⟨r, 0, none⟩)), (11, .int .i64 i), (5, .int .i64 i), (6, .int .i64 yy)] 36 G1 a w → Q .normal a w) : (regOf 8 C24).wpIn Fence.wide n Try.prog Q a w := by
  have hmix : Try.prog.follows .mixedOrders = true := by kernel_rfl
  simp only [regOf, C24, Try.f24, Option.getD, Nat.reduceBEq, Bool.false_eq_true, if_true, if_false]
  refine region_inv (RI [(1, .pointer (some ⟨bx, 0, none⟩)), (4, .pointer (some ⟨r, 0, none⟩)), (11, .int .i64 i), (5, .int .i64 i), (6, .int .i64 yy)]
    [(0, 20, .pointer (some ⟨r, 0, none⟩)), (1, 21, .int .i64 i), (2, 22, .int .i64 yy), (3, 23, .agg #[.int .u8 k, .int .u8 v]), (4, 24, .pointer (some ⟨r, 0, none⟩)), (5, 25, .pointer (some ⟨r, 0, none⟩)), (6, 26, .pointer (some ⟨r, i * 2, none⟩))] 36 [] (fun Xs w => (Xs 7 = false → G w) ∧ (Xs 7 = true → G1 w))) hmix (by kernel_rfl) ⟨h0.size, h0.defers, h0.kn, by simp, fun _ => hS _ _ h0.wp (Below.refl _ _).drew, fun h => by cases h⟩ ⟨?_, ?_, ?_, ?_, ?_, ?_, ?_, ?_, trivial⟩ ?_
  · intro Xs a w hX hdep hC hI
    have e4 := hI.gi 4 rfl
    have ns : Xs 7 = false := by
        cases y7 : Xs 7 with
        | false => rfl
        | true =>
          have y0 := hC 7 _ rfl y7 ⟨0, .phase⟩ (by simp) rfl
          rw [hX] at y0; cases y0
    have hg := hI.wp.1 ns
    have hw2 : ∀ {d w}, G w → d ≠ 7 → (addX Xs d 7 = false → G w) ∧ (addX Xs d 7 = true → G1 w) := fun hg hd => ⟨fun _ => hg, fun h => by simp [addX, ns, hd.symm] at h⟩
    clear ns
    go_simp
    exact hI.put' (k := 0) (d := 20) (by decide) (by simp) (by simp) (by simp) (hw2 hg (by decide))
  · intro Xs a w hX hdep hC hI
    have e5 := hI.gi 5 rfl
    have ns : Xs 7 = false := by
        cases y7 : Xs 7 with
        | false => rfl
        | true =>
          have y1 := hC 7 _ rfl y7 ⟨1, .phase⟩ (by simp) rfl
          rw [hX] at y1; cases y1
    have hg := hI.wp.1 ns
    have hw2 : ∀ {d w}, G w → d ≠ 7 → (addX Xs d 7 = false → G w) ∧ (addX Xs d 7 = true → G1 w) := fun hg hd => ⟨fun _ => hg, fun h => by simp [addX, ns, hd.symm] at h⟩
    clear ns
    go_simp
    exact hI.put' (k := 1) (d := 21) (by decide) (by simp) (by simp) (by simp) (hw2 hg (by decide))
  · intro Xs a w hX hdep hC hI
    have e6 := hI.gi 6 rfl
    have ns : Xs 7 = false := by
        cases y7 : Xs 7 with
        | false => rfl
        | true =>
          have y2 := hC 7 _ rfl y7 ⟨2, .phase⟩ (by simp) rfl
          rw [hX] at y2; cases y2
    have hg := hI.wp.1 ns
    have hw2 : ∀ {d w}, G w → d ≠ 7 → (addX Xs d 7 = false → G w) ∧ (addX Xs d 7 = true → G1 w) := fun hg hd => ⟨fun _ => hg, fun h => by simp [addX, ns, hd.symm] at h⟩
    clear ns
    go_simp
    exact hI.put' (k := 2) (d := 22) (by decide) (by simp) (by simp) (by simp) (hw2 hg (by decide))
  · intro Xs a w hX hdep hC hI
    have x2 : Xs 2 = true := hdep ⟨2, .data⟩ (by simp) rfl
    have e22 := hI.gk 2 rfl x2
    have ns : Xs 7 = false := by
        cases y7 : Xs 7 with
        | false => rfl
        | true =>
          have y3 := hC 7 _ rfl y7 ⟨3, .data⟩ (by simp) rfl
          rw [hX] at y3; cases y3
    have hg := hI.wp.1 ns
    have hw2 : ∀ {d w}, G w → d ≠ 7 → (addX Xs d 7 = false → G w) ∧ (addX Xs d 7 = true → G1 w) := fun hg hd => ⟨fun _ => hg, fun h => by simp [addX, ns, hd.symm] at h⟩
    clear ns
    go_simp
    refine ⟨trivial, fun h => (by cases h), (hc (n - 1) w hg).mono ?_⟩
    rintro e w' ⟨rfl, hb2⟩
    exact hI.put' (k := 3) (d := 23) (by decide) (by simp) (by simp) (by simp) (hw2 (hS _ _ hg hb2) (by decide))
  · intro Xs a w hX hdep hC hI
    have x0 : Xs 0 = true := hdep ⟨0, .data⟩ (by simp) rfl
    have e20 := hI.gk 0 rfl x0
    have ns : Xs 7 = false := by
        cases y7 : Xs 7 with
        | false => rfl
        | true =>
          have y6 := hC 7 _ rfl y7 ⟨6, .data⟩ (by simp) rfl
          have y5 := hC 6 _ rfl y6 ⟨5, .data⟩ (by simp) rfl
          have y4 := hC 5 _ rfl y5 ⟨4, .data⟩ (by simp) rfl
          rw [hX] at y4; cases y4
    have hg := hI.wp.1 ns
    have hw2 : ∀ {d w}, G w → d ≠ 7 → (addX Xs d 7 = false → G w) ∧ (addX Xs d 7 = true → G1 w) := fun hg hd => ⟨fun _ => hg, fun h => by simp [addX, ns, hd.symm] at h⟩
    clear ns
    go_simp
    exact hI.put' (k := 4) (d := 24) (by decide) (by simp) (by simp) (by simp) (hw2 hg (by decide))
  · intro Xs a w hX hdep hC hI
    have x4 : Xs 4 = true := hdep ⟨4, .data⟩ (by simp) rfl
    have e24 := hI.gk 4 rfl x4
    have ns : Xs 7 = false := by
        cases y7 : Xs 7 with
        | false => rfl
        | true =>
          have y6 := hC 7 _ rfl y7 ⟨6, .data⟩ (by simp) rfl
          have y5 := hC 6 _ rfl y6 ⟨5, .data⟩ (by simp) rfl
          rw [hX] at y5; cases y5
    have hg := hI.wp.1 ns
    have hw2 : ∀ {d w}, G w → d ≠ 7 → (addX Xs d 7 = false → G w) ∧ (addX Xs d 7 = true → G1 w) := fun hg hd => ⟨fun _ => hg, fun h => by simp [addX, ns, hd.symm] at h⟩
    clear ns
    go_simp
    exact hI.put' (k := 5) (d := 25) (by decide) (by simp) (by simp) (by simp) (hw2 hg (by decide))
  · intro Xs a w hX hdep hC hI
    have x5 : Xs 5 = true := hdep ⟨5, .data⟩ (by simp) rfl
    have e25 := hI.gk 5 rfl x5
    have x1 : Xs 1 = true := hdep ⟨1, .data⟩ (by simp) rfl
    have e21 := hI.gk 1 rfl x1
    have ns : Xs 7 = false := by
        cases y7 : Xs 7 with
        | false => rfl
        | true =>
          have y6 := hC 7 _ rfl y7 ⟨6, .data⟩ (by simp) rfl
          rw [hX] at y6; cases y6
    have hg := hI.wp.1 ns
    have q1_6 : (0 : Int) ≤ i := by omega
    have q2_6 : (i : Int) < 4096 := by omega
    have hw2 : ∀ {d w}, G w → d ≠ 7 → (addX Xs d 7 = false → G w) ∧ (addX Xs d 7 = true → G1 w) := fun hg hd => ⟨fun _ => hg, fun h => by simp [addX, ns, hd.symm] at h⟩
    clear ns
    go_simp
    exact hI.put' (k := 6) (d := 26) (by decide) (by simp) (by simp) (by simp) (hw2 hg (by decide))
  · intro Xs a w hX hdep hC hI
    have x6 : Xs 6 = true := hdep ⟨6, .data⟩ (by simp) rfl
    have e26 := hI.gk 6 rfl x6
    have x3 : Xs 3 = true := hdep ⟨3, .data⟩ (by simp) rfl
    have e23 := hI.gk 3 rfl x3
    have hg := hI.wp.1 hX
    obtain ⟨⟨v0, cw0⟩, v1, cw1⟩ := cw w hg
    obtain ⟨fw0, fw1⟩ := fw w hg
    go_simp
    exact hI.put_none' (k := 7) (by simp) ⟨fun h => by simp [addX] at h, fun _ => hst w hg⟩
  · intro Xs a w hX hI
    refine hQ a w ⟨hI.size, hI.defers, ?_, hI.wp.2 (hX 7 (by simp))⟩
    simp only [List.mem_cons, List.not_mem_nil, or_false, forall_eq_or_imp, forall_eq]
    exact ⟨hI.gi 1 rfl, hI.gi 4 rfl, hI.gi 11 rfl, hI.gi 5 rfl, hI.gi 6 rfl⟩
set_option maxRecDepth 100000 in
set_option maxHeartbeats 4000000 in
theorem lc9 (n : Nat) {G G1 : World → Prop} (hS : Stable G) (bx r : Nat) (i : Nat) (yy k v : Int) (hi : i < 4096) (hc : ∀ m w, G w → CallsIn Fence.wide m Try.prog 38 #[.int .i64 yy] w fun e w' => e = .returned (.agg #[.int .u8 k, .int .u8 v]) ∧ Below w.heap.size w w') (cw : ∀ w, G w → (∃ v, w.cell? ⟨r, 8192 + i * 2, none⟩ = some v) ∧ ∃ v, w.cell? ⟨r, 8192 + i * 2 + 1, none⟩ = some v) (fw : ∀ w, G w → w.frozen? ⟨r, 8192 + i * 2, none⟩ = false ∧ w.frozen? ⟨r, 8192 + i * 2 + 1, none⟩ = false) (hst : ∀ w, G w → G1 ((w.setCell ⟨r, 8192 + i * 2, none⟩ (.int .u8 k)).setCell ⟨r, 8192 + i * 2 + 1, none⟩ (.int .u8 v))) (Q : Exit → Act → World → Prop) (a : Act) (w : World) (h0 : SG [(1, .pointer (some ⟨bx, 0, none⟩)), (4, .pointer (some ⟨r, 0, none⟩)), (11, .int .i64 i), (5, .int .i64 i), (6, .int .i64 yy)] 36 G a w)
    (hQ : ∀ a w, SG [(1, .pointer (some ⟨bx, 0, none⟩)), (4, .pointer (some ⟨r, 0, none⟩)), (11, .int .i64 i)] 36 G1 a w → Q .normal a w) : (regOf 9 C24).wpIn Fence.wide n Try.prog Q a w := by
  have hmix : Try.prog.follows .mixedOrders = true := by kernel_rfl
  simp only [regOf, C24, Try.f24, Option.getD, Nat.reduceBEq, Bool.false_eq_true, if_true, if_false]
  refine region_inv (RI [(1, .pointer (some ⟨bx, 0, none⟩)), (4, .pointer (some ⟨r, 0, none⟩)), (11, .int .i64 i), (5, .int .i64 i), (6, .int .i64 yy)]
    [(0, 27, .pointer (some ⟨r, 0, none⟩)), (1, 28, .int .i64 i), (2, 29, .int .i64 yy), (3, 30, .agg #[.int .u8 k, .int .u8 v]), (4, 31, .pointer (some ⟨r, 0, none⟩)), (5, 32, .pointer (some ⟨r, 8192, none⟩)), (6, 33, .pointer (some ⟨r, 8192 + i * 2, none⟩))] 36 [] (fun Xs w => (Xs 7 = false → G w) ∧ (Xs 7 = true → G1 w))) hmix (by kernel_rfl) ⟨h0.size, h0.defers, h0.kn, by simp, fun _ => hS _ _ h0.wp (Below.refl _ _).drew, fun h => by cases h⟩ ⟨?_, ?_, ?_, ?_, ?_, ?_, ?_, ?_, trivial⟩ ?_
  · intro Xs a w hX hdep hC hI
    have e4 := hI.gi 4 rfl
    have ns : Xs 7 = false := by
        cases y7 : Xs 7 with
        | false => rfl
        | true =>
          have y0 := hC 7 _ rfl y7 ⟨0, .phase⟩ (by simp) rfl
          rw [hX] at y0; cases y0
    have hg := hI.wp.1 ns
    have hw2 : ∀ {d w}, G w → d ≠ 7 → (addX Xs d 7 = false → G w) ∧ (addX Xs d 7 = true → G1 w) := fun hg hd => ⟨fun _ => hg, fun h => by simp [addX, ns, hd.symm] at h⟩
    clear ns
    go_simp
    exact hI.put' (k := 0) (d := 27) (by decide) (by simp) (by simp) (by simp) (hw2 hg (by decide))
  · intro Xs a w hX hdep hC hI
    have e5 := hI.gi 5 rfl
    have ns : Xs 7 = false := by
        cases y7 : Xs 7 with
        | false => rfl
        | true =>
          have y1 := hC 7 _ rfl y7 ⟨1, .phase⟩ (by simp) rfl
          rw [hX] at y1; cases y1
    have hg := hI.wp.1 ns
    have hw2 : ∀ {d w}, G w → d ≠ 7 → (addX Xs d 7 = false → G w) ∧ (addX Xs d 7 = true → G1 w) := fun hg hd => ⟨fun _ => hg, fun h => by simp [addX, ns, hd.symm] at h⟩
    clear ns
    go_simp
    exact hI.put' (k := 1) (d := 28) (by decide) (by simp) (by simp) (by simp) (hw2 hg (by decide))
  · intro Xs a w hX hdep hC hI
    have e6 := hI.gi 6 rfl
    have ns : Xs 7 = false := by
        cases y7 : Xs 7 with
        | false => rfl
        | true =>
          have y2 := hC 7 _ rfl y7 ⟨2, .phase⟩ (by simp) rfl
          rw [hX] at y2; cases y2
    have hg := hI.wp.1 ns
    have hw2 : ∀ {d w}, G w → d ≠ 7 → (addX Xs d 7 = false → G w) ∧ (addX Xs d 7 = true → G1 w) := fun hg hd => ⟨fun _ => hg, fun h => by simp [addX, ns, hd.symm] at h⟩
    clear ns
    go_simp
    exact hI.put' (k := 2) (d := 29) (by decide) (by simp) (by simp) (by simp) (hw2 hg (by decide))
  · intro Xs a w hX hdep hC hI
    have x2 : Xs 2 = true := hdep ⟨2, .data⟩ (by simp) rfl
    have e29 := hI.gk 2 rfl x2
    have ns : Xs 7 = false := by
        cases y7 : Xs 7 with
        | false => rfl
        | true =>
          have y3 := hC 7 _ rfl y7 ⟨3, .data⟩ (by simp) rfl
          rw [hX] at y3; cases y3
    have hg := hI.wp.1 ns
    have hw2 : ∀ {d w}, G w → d ≠ 7 → (addX Xs d 7 = false → G w) ∧ (addX Xs d 7 = true → G1 w) := fun hg hd => ⟨fun _ => hg, fun h => by simp [addX, ns, hd.symm] at h⟩
    clear ns
    go_simp
    refine ⟨trivial, fun h => (by cases h), (hc (n - 1) w hg).mono ?_⟩
    rintro e w' ⟨rfl, hb2⟩
    exact hI.put' (k := 3) (d := 30) (by decide) (by simp) (by simp) (by simp) (hw2 (hS _ _ hg hb2) (by decide))
  · intro Xs a w hX hdep hC hI
    have x0 : Xs 0 = true := hdep ⟨0, .data⟩ (by simp) rfl
    have e27 := hI.gk 0 rfl x0
    have ns : Xs 7 = false := by
        cases y7 : Xs 7 with
        | false => rfl
        | true =>
          have y6 := hC 7 _ rfl y7 ⟨6, .data⟩ (by simp) rfl
          have y5 := hC 6 _ rfl y6 ⟨5, .data⟩ (by simp) rfl
          have y4 := hC 5 _ rfl y5 ⟨4, .data⟩ (by simp) rfl
          rw [hX] at y4; cases y4
    have hg := hI.wp.1 ns
    have hw2 : ∀ {d w}, G w → d ≠ 7 → (addX Xs d 7 = false → G w) ∧ (addX Xs d 7 = true → G1 w) := fun hg hd => ⟨fun _ => hg, fun h => by simp [addX, ns, hd.symm] at h⟩
    clear ns
    go_simp
    exact hI.put' (k := 4) (d := 31) (by decide) (by simp) (by simp) (by simp) (hw2 hg (by decide))
  · intro Xs a w hX hdep hC hI
    have x4 : Xs 4 = true := hdep ⟨4, .data⟩ (by simp) rfl
    have e31 := hI.gk 4 rfl x4
    have ns : Xs 7 = false := by
        cases y7 : Xs 7 with
        | false => rfl
        | true =>
          have y6 := hC 7 _ rfl y7 ⟨6, .data⟩ (by simp) rfl
          have y5 := hC 6 _ rfl y6 ⟨5, .data⟩ (by simp) rfl
          rw [hX] at y5; cases y5
    have hg := hI.wp.1 ns
    have hw2 : ∀ {d w}, G w → d ≠ 7 → (addX Xs d 7 = false → G w) ∧ (addX Xs d 7 = true → G1 w) := fun hg hd => ⟨fun _ => hg, fun h => by simp [addX, ns, hd.symm] at h⟩
    clear ns
    go_simp
    exact hI.put' (k := 5) (d := 32) (by decide) (by simp) (by simp) (by simp) (hw2 hg (by decide))
  · intro Xs a w hX hdep hC hI
    have x5 : Xs 5 = true := hdep ⟨5, .data⟩ (by simp) rfl
    have e32 := hI.gk 5 rfl x5
    have x1 : Xs 1 = true := hdep ⟨1, .data⟩ (by simp) rfl
    have e28 := hI.gk 1 rfl x1
    have ns : Xs 7 = false := by
        cases y7 : Xs 7 with
        | false => rfl
        | true =>
          have y6 := hC 7 _ rfl y7 ⟨6, .data⟩ (by simp) rfl
          rw [hX] at y6; cases y6
    have hg := hI.wp.1 ns
    have q1_6 : (0 : Int) ≤ i := by omega
    have q2_6 : (i : Int) < 4096 := by omega
    have hw2 : ∀ {d w}, G w → d ≠ 7 → (addX Xs d 7 = false → G w) ∧ (addX Xs d 7 = true → G1 w) := fun hg hd => ⟨fun _ => hg, fun h => by simp [addX, ns, hd.symm] at h⟩
    clear ns
    go_simp
    exact hI.put' (k := 6) (d := 33) (by decide) (by simp) (by simp) (by simp) (hw2 hg (by decide))
  · intro Xs a w hX hdep hC hI
    have x6 : Xs 6 = true := hdep ⟨6, .data⟩ (by simp) rfl
    have e33 := hI.gk 6 rfl x6
    have x3 : Xs 3 = true := hdep ⟨3, .data⟩ (by simp) rfl
    have e30 := hI.gk 3 rfl x3
    have hg := hI.wp.1 hX
    obtain ⟨⟨v0, cw0⟩, v1, cw1⟩ := cw w hg
    obtain ⟨fw0, fw1⟩ := fw w hg
    go_simp
    exact hI.put_none' (k := 7) (by simp) ⟨fun h => by simp [addX] at h, fun _ => hst w hg⟩
  · intro Xs a w hX hI
    refine hQ a w ⟨hI.size, hI.defers, ?_, hI.wp.2 (hX 7 (by simp))⟩
    simp only [List.mem_cons, List.not_mem_nil, or_false, forall_eq_or_imp, forall_eq]
    exact ⟨hI.gi 1 rfl, hI.gi 4 rfl, hI.gi 11 rfl⟩
set_option maxRecDepth 100000 in
set_option maxHeartbeats 4000000 in
theorem lc10 (n : Nat) (W : World) (bx r : Nat) (i : Nat) (hi : i < 4096) (Q : Exit → Act → World → Prop) (a : Act) (h0 : SR [(1, .pointer (some ⟨bx, 0, none⟩)), (4, .pointer (some ⟨r, 0, none⟩)), (11, .int .i64 i)] 36 [] W a W)
    (hQ : ∀ a, SR [(1, .pointer (some ⟨bx, 0, none⟩)), (4, .pointer (some ⟨r, 0, none⟩)), (11, .int .i64 ((i : Int) + 1))] 36 [] (W) a (W) → Q .normal a (W)) : (regOf 10 C24).wpIn Fence.wide n Try.prog Q a W := by
  simp only [regOf, C24, Try.f24, Option.getD, Nat.reduceBEq, Bool.false_eq_true, if_true, if_false]
  refine region_sq (fun k_ a w => match k_ with | 0 => SR [(1, .pointer (some ⟨bx, 0, none⟩)), (4, .pointer (some ⟨r, 0, none⟩)), (11, .int .i64 i)] 36 [] (W) a w | 1 => SR [(1, .pointer (some ⟨bx, 0, none⟩)), (4, .pointer (some ⟨r, 0, none⟩)), (34, .int .i64 ((i : Int) + 1))] 36 [] (W) a w | _ => SR [(1, .pointer (some ⟨bx, 0, none⟩)), (4, .pointer (some ⟨r, 0, none⟩)), (11, .int .i64 ((i : Int) + 1))] 36 [] (W) a w) (show SR _ _ _ _ a W from h0) ⟨?_, ?_, trivial⟩ ?_
  · intro a w hI
    have hI : SR _ _ _ _ a w := hI
    have e11 := hI.g 11 rfl
    have hw : w = W := hI.wp
    subst hw
    have hw0 : IntKind.i64.wrap ((i : Int) + 1) = (i : Int) + 1 := IntWalk.i64_in _ (by omega)
    go_simp
    exact hI.put (d := 34) (by decide) (by simp)
  · intro a w hI
    have hI : SR _ _ _ _ a w := hI
    have e34 := hI.g 34 rfl
    have hw : w = W := hI.wp
    subst hw
    go_simp
    exact hI.put (d := 11) (by decide) (by simp)
  · intro a w hI
    have hI : SR _ _ _ _ a w := hI
    have hw : w = W := hI.wp
    subst hw
    exact hQ a hI
set_option maxRecDepth 100000 in
set_option maxHeartbeats 4000000 in
theorem lc11 (n : Nat) (W : World) (r : Nat) (Q : Exit → Act → World → Prop) (a : Act) (h0 : SR [(4, .pointer (some ⟨r, 0, none⟩))] 36 [] W a W)
    (hQ : ∀ a, SR [(2, .pointer (some ⟨r, 0, none⟩)), (3, .bool true)] 36 [] (W) a (W) → Q .normal a (W)) : (regOf 11 C24).wpIn Fence.wide n Try.prog Q a W := by
  simp only [regOf, C24, Try.f24, Option.getD, Nat.reduceBEq, Bool.false_eq_true, if_true, if_false]
  refine region_sq (fun k_ a w => match k_ with | 0 => SR [(4, .pointer (some ⟨r, 0, none⟩))] 36 [] (W) a w | 1 => SR [(35, .pointer (some ⟨r, 0, none⟩))] 36 [] (W) a w | 2 => SR [(2, .pointer (some ⟨r, 0, none⟩))] 36 [] (W) a w | _ => SR [(2, .pointer (some ⟨r, 0, none⟩)), (3, .bool true)] 36 [] (W) a w) (show SR _ _ _ _ a W from h0) ⟨?_, ?_, ?_, trivial⟩ ?_
  · intro a w hI
    have hI : SR _ _ _ _ a w := hI
    have e4 := hI.g 4 rfl
    have hw : w = W := hI.wp
    subst hw
    go_simp
    exact hI.put (d := 35) (by decide) (by simp)
  · intro a w hI
    have hI : SR _ _ _ _ a w := hI
    have e35 := hI.g 35 rfl
    have hw : w = W := hI.wp
    subst hw
    go_simp
    exact hI.put (d := 2) (by decide) (by simp)
  · intro a w hI
    have hI : SR _ _ _ _ a w := hI
    have hw : w = W := hI.wp
    subst hw
    go_simp
    exact hI.put (d := 3) (by decide) (by simp)
  · intro a w hI
    have hI : SR _ _ _ _ a w := hI
    have hw : w = W := hI.wp
    subst hw
    exact hQ a hI
/-! ### What a chunk's block holds -/
open Pf (cellK cellL mayS spotV I64 U8 Gives)
abbrev ptr (b : Nat) : Value := .pointer (some ⟨b, 0, none⟩)
structure Ck (cs : Array Value) (A B : Nat → Int) : Prop where
  size : cs.size = 16385
  a : ∀ j, j < 8192 → cs[j]? = some (.int .u8 (A j))
  b : ∀ j, j < 8192 → cs[8192 + j]? = some (.int .u8 (B j))
  t : cs[16384]? = some (.slice none 0 0)
theorem Z49_list : Z49.toList = List.replicate 16384 (Value.int .u8 0) ++ [Value.slice none 0 0] := by
  obtain ⟨i, z, h1, h2, h3, _⟩ := Sx.bigM_info (P := Try.prog) (t := 49) (n := 16384) (tl := [.nils]) (by kernel_rfl)
  have := h3 Sx.Γz
  unfold Z49
  rw [h1]
  simp only [Option.bind_some, h2, Option.getD_some, this]
  rfl
theorem ck_zero : Ck Z49 (fun _ => 0) (fun _ => 0) := by
  have hz : ∀ j, Z49[j]? = (List.replicate 16384 (Value.int .u8 0) ++ [Value.slice none 0 0])[j]? := fun j => by rw [← Array.getElem?_toList, Z49_list]
  refine ⟨by rw [← Array.length_toList, Z49_list, List.length_append, List.length_replicate]; rfl, fun j h => ?_, fun j h => ?_, ?_⟩
  · rw [hz, List.getElem?_append_left (by rw [List.length_replicate]; omega), List.getElem?_replicate, if_pos (by omega)]
  · rw [hz, List.getElem?_append_left (by rw [List.length_replicate]; omega), List.getElem?_replicate, if_pos (by omega)]
  · rw [hz, List.getElem?_append_right (by rw [List.length_replicate]; omega), List.length_replicate]; rfl
def upd2 (A : Nat → Int) (i : Nat) (k v : Int) : Nat → Int := fun j => if j = i * 2 then k else if j = i * 2 + 1 then v else A j
theorem Ck.setA {cs : Array Value} {A B : Nat → Int} (h : Ck cs A B) {i : Nat} (hi : i < 4096) (k v : Int) : Ck ((cs.setIfInBounds (i * 2) (.int .u8 k)).setIfInBounds (i * 2 + 1) (.int .u8 v)) (upd2 A i k v) B := by
  have hs := h.size
  refine ⟨by simp [hs], fun j hj => ?_, fun j hj => ?_, ?_⟩
  · unfold upd2
    rw [Array.getElem?_setIfInBounds, Array.getElem?_setIfInBounds]
    by_cases h1 : j = i * 2 + 1
    · rw [if_pos h1.symm, if_pos (by simp; omega), if_neg (by omega), if_pos h1]
    · rw [if_neg (Ne.symm h1)]
      by_cases h0 : j = i * 2
      · rw [if_pos h0.symm, if_pos (by omega), if_pos h0]
      · rw [if_neg (Ne.symm h0), if_neg h0, if_neg h1]; exact h.a j hj
  · rw [Array.getElem?_setIfInBounds, Array.getElem?_setIfInBounds, if_neg (by omega), if_neg (by omega)]; exact h.b j hj
  · rw [Array.getElem?_setIfInBounds, Array.getElem?_setIfInBounds, if_neg (by omega), if_neg (by omega)]; exact h.t
theorem Ck.setB {cs : Array Value} {A B : Nat → Int} (h : Ck cs A B) {i : Nat} (hi : i < 4096) (k v : Int) : Ck ((cs.setIfInBounds (8192 + i * 2) (.int .u8 k)).setIfInBounds (8192 + i * 2 + 1) (.int .u8 v)) A (upd2 B i k v) := by
  have hs := h.size
  refine ⟨by simp [hs], fun j hj => ?_, fun j hj => ?_, ?_⟩
  · rw [Array.getElem?_setIfInBounds, Array.getElem?_setIfInBounds, if_neg (by omega), if_neg (by omega)]; exact h.a j hj
  · unfold upd2
    rw [Array.getElem?_setIfInBounds, Array.getElem?_setIfInBounds]
    by_cases h1 : j = i * 2 + 1
    · rw [if_pos (by omega), if_pos (by simp; omega), if_neg (by omega), if_pos h1]
    · rw [if_neg (by omega)]
      by_cases h0 : j = i * 2
      · rw [if_pos (by omega), if_pos (by omega), if_pos h0]
      · rw [if_neg (by omega), if_neg h0, if_neg h1]; exact h.b j hj
  · rw [Array.getElem?_setIfInBounds, Array.getElem?_setIfInBounds, if_neg (by omega), if_neg (by omega)]; exact h.t
/-- A chunk that lies in a world. -/
def CkW (w : World) (r : Nat) (A B : Nat → Int) : Prop := ∃ cs, w.heap[r]? = some (.cells cs 49 (0, 0)) ∧ Ck cs A B
theorem CkW.lt {w : World} {r : Nat} {A B : Nat → Int} (h : CkW w r A B) : r < w.heap.size := by
  obtain ⟨cs, h1, _⟩ := h
  exact (Array.getElem?_eq_some_iff.1 h1).1
theorem CkW.below {w w' : World} {r : Nat} {A B : Nat → Int} (h : CkW w r A B) (hb : Below w.heap.size w w') : CkW w' r A B := by
  have hl := h.lt
  obtain ⟨cs, h1, h2⟩ := h
  exact ⟨cs, (hb.block r hl).trans h1, h2⟩
theorem CkW.stable (r : Nat) (A B : Nat → Int) : Stable fun w => CkW w r A B := fun _ _ h hb => h.below hb
theorem CkW.cell {w : World} {r : Nat} {A B : Nat → Int} (h : CkW w r A B) {j : Nat} (hj : j < 8192) : w.cell? ⟨r, j, none⟩ = some (.int .u8 (A j)) := by
  obtain ⟨cs, h1, h2⟩ := h
  simp [World.cell?, h1, h2.a j hj]
theorem CkW.light {w : World} {r : Nat} {A B : Nat → Int} (h : CkW w r A B) {j : Nat} (hj : j < 8192) : w.cell? ⟨r, 8192 + j, none⟩ = some (.int .u8 (B j)) := by
  obtain ⟨cs, h1, h2⟩ := h
  simp [World.cell?, h1, h2.b j hj]
theorem belS {w0 : World} : Stable (Below w0.heap.size w0) := fun w1 w2 hh hb => hh.trans (hb.mono hh.size)
theorem C25_eq : C25 = .seq (regOf 0 C25) (.seq (regOf 1 C25) .ret) := by kernel_rfl
theorem new_in (n : Nat) (w : World) : CallsIn Fence.wide n Try.prog 25 #[] w fun e w' => ∃ r, e = .returned (ptr r) ∧ Below w.heap.size w w' ∧ w.heap.size ≤ r ∧ CkW w' r (fun _ => 0) (fun _ => 0) := by
  refine callsIn_of_wp Try.func25 rfl trivial ?_
  show C25.wpIn _ _ _ _ _ _
  rw [C25_eq]
  refine wpIn_seq (nw0 n w _ _ ⟨by simp [Try.ntmps25], rfl, by simp, rfl⟩ ?_)
  intro a1 h1
  refine wpIn_seq (nw1 n w _ a1 h1 ?_)
  intro a2 h2
  exact wpIn_ret ⟨h2.defers, _, results_tmp (t := 0) rfl _ _ _, w.heap.size, by rw [Array.getD_eq_getD_getElem?, h2.g 0 rfl], (Below.refl _ _).alloc (Nat.le_refl _) _, Nat.le_refl _, _, World.alloc_heap_new w _, ck_zero⟩
/-! ### The land's chunk -/
def landA (y : Int) : Nat → Int := fun j => if j % 2 = 1 then 0 else cellK (y * 16 + ((j / 512 : Nat) : Int))
def landB (y : Int) : Nat → Int := fun j => if j % 2 = 1 then 0 else cellL (y * 16 + ((j / 512 : Nat) : Int))
def upto (A : Nat → Int) (i : Nat) : Nat → Int := fun j => if j < 2 * i then A j else 0
theorem upto_0 (A : Nat → Int) : upto A 0 = fun _ => 0 := by funext j; unfold upto; rw [if_neg (by omega)]
theorem upto_step (A : Nat → Int) {i : Nat} {k v : Int} (hk : A (i * 2) = k) (hv : A (i * 2 + 1) = v) : upd2 (upto A i) i k v = upto A (i + 1) := by
  funext j
  unfold upd2 upto
  by_cases h0 : j = i * 2
  · rw [if_pos h0, if_pos (by omega), h0, hk]
  · rw [if_neg h0]
    by_cases h1 : j = i * 2 + 1
    · rw [if_pos h1, if_pos (by omega), h1, hv]
    · rw [if_neg h1]
      by_cases h2 : j < 2 * i
      · rw [if_pos h2, if_pos (by omega)]
      · rw [if_neg h2, if_neg (by omega)]
theorem landA_k (y : Int) (i : Nat) : landA y (i * 2) = cellK (y * 16 + (i : Int) / 256) := by
  unfold landA
  rw [if_neg (by omega), show ((i * 2 / 512 : Nat) : Int) = (i : Int) / 256 by omega]
theorem landA_v (y : Int) (i : Nat) : landA y (i * 2 + 1) = 0 := by unfold landA; rw [if_pos (by omega)]
theorem landB_k (y : Int) (i : Nat) : landB y (i * 2) = cellL (y * 16 + (i : Int) / 256) := by
  unfold landB
  rw [if_neg (by omega), show ((i * 2 / 512 : Nat) : Int) = (i : Int) / 256 by omega]
theorem landB_v (y : Int) (i : Nat) : landB y (i * 2 + 1) = 0 := by unfold landB; rw [if_pos (by omega)]
theorem Ck.of_upto {cs : Array Value} {A B : Nat → Int} (h : Ck cs (upto A 4096) (upto B 4096)) : Ck cs A B where
  size := h.size
  a j hj := by rw [h.a j hj]; unfold upto; rw [if_pos (by omega)]
  b j hj := by rw [h.b j hj]; unfold upto; rw [if_pos (by omega)]
  t := h.t
theorem Has.at0 {W0 w : World} {p : Nat × Obj} {bs : List (Nat × Obj)} (h : Has W0 (p :: bs) w) : w.heap[p.1]? = some p.2 := h.blk p List.mem_cons_self
theorem Has.cell0 {W0 w : World} {b j : Nat} {cs : Array Value} {t : TypeId} {fr : Nat × Nat} {v : Value} {bs : List (Nat × Obj)} (h : Has W0 ((b, .cells cs t fr) :: bs) w) (hv : cs[j]? = some v) : w.cell? ⟨b, j, none⟩ = some v := h.cell List.mem_cons_self hv
theorem Has.cell1 {W0 w : World} {b j : Nat} {cs : Array Value} {t : TypeId} {fr : Nat × Nat} {v : Value} {p : Nat × Obj} {bs : List (Nat × Obj)} (h : Has W0 (p :: (b, .cells cs t fr) :: bs) w) (hv : cs[j]? = some v) : w.cell? ⟨b, j, none⟩ = some v := h.tail.cell0 hv
theorem Has.free {W0 w : World} {r m : Nat} {cs : Array Value} {t : TypeId} {bs : List (Nat × Obj)} (h : Has W0 ((r, .cells cs t (0, 0)) :: bs) w) : w.frozen? ⟨r, m, none⟩ = false := h.unfrozen List.mem_cons_self m
theorem Has.some {W0 w : World} {r m : Nat} {cs : Array Value} {t : TypeId} {bs : List (Nat × Obj)} (h : Has W0 ((r, .cells cs t (0, 0)) :: bs) w) (hm : m < cs.size) : ∃ v, w.cell? ⟨r, m, none⟩ = some v :=
  ⟨cs[m], h.cell List.mem_cons_self (Array.getElem?_eq_getElem hm)⟩
theorem C24_eq : C24 = .seq (regOf 0 C24) (.seq (.seq (regOf 1 C24) (.cond (.tmp 9) (.seq (regOf 2 C24) .ret) .skip)) (.seq (regOf 3 C24) (.seq (.seq (regOf 4 C24) (.block 0 (.loop (.seq (regOf 5 C24) (.seq (.cond (.tmp 12) .skip (.exit 0)) (.seq (.block 1 (.seq (regOf 6 C24) (.seq (regOf 7 C24) (.seq (regOf 8 C24) (regOf 9 C24))))) (regOf 10 C24))))))) (.seq (regOf 11 C24) .ret)))) := by kernel_rfl
section
variable {x y z : Int}
theorem land_not (n : Nat) (w : World) (hx : I64 x) (hy : I64 y) (hz : I64 z) (hm : mayS x y z = false) : CallsIn Fence.wide n Try.prog 24 #[spotV x y z] w fun e w' => e = .returned (.tuple #[.pointer none, .bool false]) ∧ Below w.heap.size w w' := by
  refine callsIn_of_wp Try.func24 rfl trivial ?_
  show C24.wpIn _ _ _ _ _ _
  rw [C24_eq]
  refine wpIn_seq (lc0 n w x y z _ _ ⟨by simp [Try.ntmps24], rfl, by simp [Try.ntmps24], rfl⟩ ?_)
  intro a1 h1
  have hH := (Has.start w).alloc (.cells #[.int .i64 x, .int .i64 y, .int .i64 z] 33)
  refine wpIn_seq (wpIn_seq (lc1 n (Has.stable _ _) w.heap.size x y z false (fun w hw => hw.cell0 rfl) (fun w hw => hw.cell0 rfl) (fun w hw => hw.cell0 rfl) (fun m w _ => hm ▸ Pf.c36 hx hy hz m w) _ a1 _ (h1.sg hH) ?_))
  intro a2 w2 h2
  refine wpIn_cond (t := true) (by rw [eval_tmp]; exact h2.g 9 rfl) (wpIn_seq ?_)
  refine lc2 n w2 _ a2 (h2.sub (by simp)).sr ?_
  intro a3 h3
  exact wpIn_ret ⟨h3.defers, _, results_tmp2 (t := 2) (u := 3) rfl _ _ _, by rw [Array.getD_eq_getD_getElem?, Array.getD_eq_getD_getElem?, h3.g 2 rfl, h3.g 3 rfl], h2.wp.bel⟩
theorem mayS_y (hm : mayS x y z = true) : 0 ≤ y ∧ y < 4 := by
  unfold mayS at hm
  simp only [Bool.and_eq_true, Bool.not_eq_true', decide_eq_true_eq, decide_eq_false_iff_not] at hm
  omega
set_option maxHeartbeats 2000000 in
theorem land_may (n : Nat) (w : World) (hx : I64 x) (hy : I64 y) (hz : I64 z) (hm : mayS x y z = true) : CallsIn Fence.wide n Try.prog 24 #[spotV x y z] w fun e w' => ∃ r, e = .returned (.tuple #[ptr r, .bool true]) ∧ Below w.heap.size w w' ∧ w.heap.size ≤ r ∧ CkW w' r (landA y) (landB y) := by
  obtain ⟨hy0, hy1⟩ := mayS_y hm
  refine callsIn_of_wp Try.func24 rfl trivial ?_
  show C24.wpIn _ _ _ _ _ _
  rw [C24_eq]
  refine wpIn_seq (lc0 n w x y z _ _ ⟨by simp [Try.ntmps24], rfl, by simp [Try.ntmps24], rfl⟩ ?_)
  intro a1 h1
  have hH := (Has.start w).alloc (.cells #[.int .i64 x, .int .i64 y, .int .i64 z] 33)
  obtain ⟨bx, hbx⟩ : ∃ bx, bx = w.heap.size := ⟨_, rfl⟩
  rw [← hbx] at h1 hH
  refine wpIn_seq (wpIn_seq (lc1 n (Has.stable _ _) bx x y z true (fun w hw => hw.cell0 rfl) (fun w hw => hw.cell0 rfl) (fun w hw => hw.cell0 rfl) (fun m w _ => hm ▸ Pf.c36 hx hy hz m w) _ a1 _ (h1.sg hH) ?_))
  intro a2 w2 h2
  refine wpIn_cond (t := false) (by rw [eval_tmp]; exact h2.g 9 rfl) (wpIn_skip ?_)
  refine wpIn_seq (lc3 n bx (fun r w' => ∃ cs, Has w [(r, .cells cs 49 (0, 0)), (bx, .cells #[.int .i64 x, .int .i64 y, .int .i64 z] 33 (0, 0))] w' ∧ Ck cs (fun _ => 0) (fun _ => 0)) (fun m w' hw => (new_in m w').mono ?_) _ a2 w2 (h2.sub (by simp)) ?_)
  · rintro e w3 ⟨r, rfl, h3, h4, cs, h5, h6⟩
    exact ⟨r, rfl, cs, hw.add h3 h4 h5, h6⟩
  intro r a3 w3 h3
  obtain ⟨cs0, hG3, hck0⟩ := h3.wp
  refine wpIn_seq (wpIn_seq (lc4 n w3 bx r _ a3 h3.sr ?_))
  intro a4 h4
  have h4 : SG [(1, ptr bx), (4, ptr r), (11, .int .i64 (0 : Nat))] 36 (Has w [(r, .cells cs0 49 (0, 0)), (bx, .cells #[.int .i64 x, .int .i64 y, .int .i64 z] 33 (0, 0))]) a4 w3 := h4.sg hG3
  rw [← upto_0 (landA y), ] at hck0
  refine wpIn_block (wpIn_loop (fun a w' => ∃ i cs, i ≤ 4096 ∧ Ck cs (upto (landA y) i) (upto (landB y) i) ∧ SG [(1, ptr bx), (4, ptr r), (11, .int .i64 (i : Nat))] 36 (Has w [(r, .cells cs 49 (0, 0)), (bx, .cells #[.int .i64 x, .int .i64 y, .int .i64 z] 33 (0, 0))]) a w') (fun a _ => 4096 - slotN 11 a) ⟨0, cs0, Nat.zero_le _, by rw [upto_0] at hck0 ⊢; rw [upto_0]; exact hck0, h4⟩ ?_)
  rintro a w4 ⟨i, cs, hi, hck, ha⟩
  have e11 := ha.slot (t := 11) (v := i) (k := .i64) (by simp)
  have hG := ha.wp
  refine wpIn_seq (lc5 n w4 bx r i _ a ha.sr ?_)
  intro a5 h5
  by_cases hlt : i < 4096
  · refine wpIn_seq (wpIn_cond (t := true) (by rw [eval_tmp, h5.g 12 rfl, decide_eq_true (by omega)]) (wpIn_skip (wpIn_seq (wpIn_block ?_))))
    refine wpIn_seq (lc6 n w4 bx r i _ a5 (h5.sub (by simp)) ?_)
    intro a6 h6
    refine wpIn_seq (lc7 n w4 bx r i y hy0 hy1 hlt (hG.cell1 rfl) _ a6 h6 ?_)
    intro a7 h7
    have hs := hck.size
    refine wpIn_seq (lc8 n (Has.stable _ _) (G1 := Has w [(r, .cells ((cs.setIfInBounds (i * 2) (.int .u8 (cellK (y * 16 + (i : Int) / 256)))).setIfInBounds (i * 2 + 1) (.int .u8 0)) 49 (0, 0)), (bx, .cells #[.int .i64 x, .int .i64 y, .int .i64 z] 33 (0, 0))]) bx r i _ _ _ hlt (fun m w _ => Pf.c37 (by unfold I64; omega) m w)
      (fun w hw => ⟨hw.some (by omega), hw.some (by omega)⟩) (fun w hw => ⟨hw.free, hw.free⟩) (fun w hw => (hw.set _).set _) _ a7 w4 (h7.sg hG) ?_)
    intro a8 w8 h8
    have hck8 := hck.setA hlt (cellK (y * 16 + (i : Int) / 256)) 0
    have hs8 := hck8.size
    refine lc9 n (Has.stable _ _) (G1 := Has w [(r, .cells ((((cs.setIfInBounds (i * 2) (.int .u8 (cellK (y * 16 + (i : Int) / 256)))).setIfInBounds (i * 2 + 1) (.int .u8 0)).setIfInBounds (8192 + i * 2) (.int .u8 (cellL (y * 16 + (i : Int) / 256)))).setIfInBounds (8192 + i * 2 + 1) (.int .u8 0)) 49 (0, 0)), (bx, .cells #[.int .i64 x, .int .i64 y, .int .i64 z] 33 (0, 0))]) bx r i _ _ _ hlt (fun m w _ => Pf.c38 (by unfold I64; omega) m w)
      (fun w hw => ⟨hw.some (by omega), hw.some (by omega)⟩) (fun w hw => ⟨hw.free, hw.free⟩) (fun w hw => (hw.set _).set _) _ a8 w8 h8 ?_
    intro a9 w9 h9
    have hck9 := hck8.setB hlt (cellL (y * 16 + (i : Int) / 256)) 0
    rw [upto_step (landA y) (landA_k y i) (landA_v y i), upto_step (landB y) (landB_k y i) (landB_v y i)] at hck9
    have hG9 := h9.wp
    show (regOf 10 C24).wpIn _ _ _ _ _ _
    refine lc10 n w9 bx r i hlt _ a9 h9.sr ?_
    intro a10 h10
    have h10 : SG [(1, ptr bx), (4, ptr r), (11, .int .i64 (i + 1 : Nat))] 36 _ a10 w9 := h10.sg hG9
    exact ⟨⟨i + 1, _, hlt, hck9, h10⟩, by rw [e11, h10.slot (t := 11) (v := i + 1) (k := .i64) (by simp)]; omega⟩
  · refine wpIn_seq (wpIn_cond (t := false) (by rw [eval_tmp, h5.g 12 rfl, decide_eq_false (by omega)]) (wpIn_exit ?_))
    obtain rfl : i = 4096 := by omega
    show (Code.seq (regOf 11 C24) .ret).wpIn _ _ _ _ _ _
    refine wpIn_seq (lc11 n w4 r _ a5 (h5.sub (by simp)) ?_)
    intro a6 h6
    exact wpIn_ret ⟨h6.defers, _, results_tmp2 (t := 2) (u := 3) rfl _ _ _, r, by rw [Array.getD_eq_getD_getElem?, Array.getD_eq_getD_getElem?, h6.g 2 rfl, h6.g 3 rfl], hG.bel, hG.new _ List.mem_cons_self, cs, hG.at0, hck.of_upto⟩
end
end Go.Proofs.Ytigblagodlfedaa
