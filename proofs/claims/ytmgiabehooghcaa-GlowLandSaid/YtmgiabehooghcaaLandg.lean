/- Glow: the walk of a law. -/
import Derived.RangeFuncNested
import Derived.RangeFuncBound
import Derived.RangeFuncCalls
import Derived.RangeFuncLeaves
import Derived.Shelf.Abstract
import Derived.Shelf.RegionOpen
import Derived.WalkKit
import Derived.OwnWalkIn
import Derived.TacticsInMore
import Derived.LoopNIn
import Derived.LoopIn
import Derived.Lib.Hide
import Derived.IntWalk
import Derived.Maps.AppendAt
import Derived.Test.YtmgiabehooghcaaKc
import Derived.Test.YtmgiabehooghcaaGin
import Derived.Test.YtmgiabehooghcaaH5
set_option linter.unusedVariables false
set_option linter.unusedSimpArgs false
namespace Go.Proofs.Ytmgiabehooghcaa
open Go.RowKit Go.Shelf
attribute [local go_sem] Oper.semAt_some

/-! ### The land's functions -/
theorem info32 : (Try.prog.info? 32).map (fun i => (i.zero, i.size, i.bytes)) = some (some (.agg #[.int .u8 0, .int .u8 0]), 2, 2) := by kernel_rfl
theorem under22 : Try.prog.underlying 22 = some (.slice 32) := by kernel_rfl
noncomputable def C32 : Code := Try.f32.body.getD .skip
set_option maxRecDepth 100000 in
set_option maxHeartbeats 4000000 in
theorem may0 (n : Nat) (W : World) (X Y Z : Int) (Q : Exit → Act → World → Prop) (a : Act) (h0 : SR [(0, .agg #[.int .i64 X, .int .i64 Y, .int .i64 Z])] 31 [] W a W)
    (hQ : ∀ a, SR [(1, .pointer (some ⟨W.heap.size, 0, none⟩))] 31 [] (W.alloc (.cells #[.int .i64 X, .int .i64 Y, .int .i64 Z] 48)) a (W.alloc (.cells #[.int .i64 X, .int .i64 Y, .int .i64 Z] 48)) → Q .normal a (W.alloc (.cells #[.int .i64 X, .int .i64 Y, .int .i64 Z] 48))) : (regOf 0 C32).wpIn Fence.wide n Try.prog Q a W := by
  simp only [regOf, C32, Try.f32, Option.getD, Nat.reduceBEq, Bool.false_eq_true, if_true, if_false]
  refine region_sq (fun k_ a w => match k_ with | 0 => SR [(0, .agg #[.int .i64 X, .int .i64 Y, .int .i64 Z])] 31 [] (W) a w | 1 => SR [(1, .pointer (some ⟨W.heap.size, 0, none⟩))] 31 [] (W.alloc (.cells #[.int .i64 X, .int .i64 Y, .int .i64 Z] 48)) a w | _ => SR [(1, .pointer (some ⟨W.heap.size, 0, none⟩))] 31 [] (W.alloc (.cells #[.int .i64 X, .int .i64 Y, .int .i64 Z] 48)) a w) (show SR _ _ _ _ a W from h0) ⟨?_, ?_, trivial⟩ ?_
  · intro a w hI
    have hI : SR _ _ _ _ a w := hI
    have e0 := hI.g 0 rfl
    have hw : w = W := hI.wp
    subst hw
    go_simp
    exact hI.put (d := 1) (by decide) (by simp)
  · intro a w hI
    have hI : SR _ _ _ _ a w := hI
    obtain rfl := hI.wp
    go_simp
    exact hI.put (d := 2) (by decide) (by simp)
  · intro a w hI
    have hI : SR _ _ _ _ a w := hI
    obtain rfl := hI.wp
    exact hQ a hI
set_option maxRecDepth 100000 in
set_option maxHeartbeats 4000000 in
theorem may1 (n : Nat) {G : World → Prop} (hS : Stable G) (S : Nat) (X Y Z : Int) (h1 : (-1048576 : Int) ≤ X) (h2 : X < 1048576) (h3 : (-1048576 : Int) ≤ Z) (h4 : Z < 1048576) (h5 : 0 ≤ Y) (h6 : Y < 64) (s0 : ∀ w, G w → w.cell? ⟨S, 0, none⟩ = some (.int .i64 X)) (s2 : ∀ w, G w → w.cell? ⟨S, 2, none⟩ = some (.int .i64 Z)) (s1 : ∀ w, G w → w.cell? ⟨S, 1, none⟩ = some (.int .i64 Y)) (Q : Exit → Act → World → Prop) (a : Act) (w : World) (h0 : SG [(1, .pointer (some ⟨S, 0, none⟩))] 31 G a w)
    (hQ : ∀ a w, SG [(2, .bool true)] 31 G a w → Q .normal a w) : (regOf 1 C32).wpIn Fence.wide n Try.prog Q a w := by
  simp only [regOf, C32, Try.f32, Option.getD, Nat.reduceBEq, Bool.false_eq_true, if_true, if_false]
  refine region_sq (fun k_ a w => match k_ with | 0 => SG [(1, .pointer (some ⟨S, 0, none⟩))] 31 G a w | 1 => SG [(1, .pointer (some ⟨S, 0, none⟩)), (3, .pointer (some ⟨S, 0, none⟩))] 31 G a w | 2 => SG [(1, .pointer (some ⟨S, 0, none⟩)), (4, .int .i64 X)] 31 G a w | 3 => SG [(1, .pointer (some ⟨S, 0, none⟩)), (5, .bool true)] 31 G a w | 4 => SG [(1, .pointer (some ⟨S, 0, none⟩)), (6, .bool true)] 31 G a w | 5 => SG [(1, .pointer (some ⟨S, 0, none⟩)), (6, .bool true), (7, .pointer (some ⟨S, 0, none⟩))] 31 G a w | 6 => SG [(1, .pointer (some ⟨S, 0, none⟩)), (6, .bool true), (8, .int .i64 X)] 31 G a w | 7 => SG [(1, .pointer (some ⟨S, 0, none⟩)), (6, .bool true), (9, .bool true)] 31 G a w | 8 => SG [(1, .pointer (some ⟨S, 0, none⟩)), (10, .bool true)] 31 G a w | 9 => SG [(1, .pointer (some ⟨S, 0, none⟩)), (11, .bool true)] 31 G a w | 10 => SG [(1, .pointer (some ⟨S, 0, none⟩)), (11, .bool true), (12, .pointer (some ⟨S, 2, none⟩))] 31 G a w | 11 => SG [(1, .pointer (some ⟨S, 0, none⟩)), (11, .bool true), (13, .int .i64 Z)] 31 G a w | 12 => SG [(1, .pointer (some ⟨S, 0, none⟩)), (11, .bool true), (14, .bool true)] 31 G a w | 13 => SG [(1, .pointer (some ⟨S, 0, none⟩)), (15, .bool true)] 31 G a w | 14 => SG [(1, .pointer (some ⟨S, 0, none⟩)), (16, .bool true)] 31 G a w | 15 => SG [(1, .pointer (some ⟨S, 0, none⟩)), (16, .bool true), (17, .pointer (some ⟨S, 2, none⟩))] 31 G a w | 16 => SG [(1, .pointer (some ⟨S, 0, none⟩)), (16, .bool true), (18, .int .i64 Z)] 31 G a w | 17 => SG [(1, .pointer (some ⟨S, 0, none⟩)), (16, .bool true), (19, .bool true)] 31 G a w | 18 => SG [(1, .pointer (some ⟨S, 0, none⟩)), (20, .bool true)] 31 G a w | 19 => SG [(1, .pointer (some ⟨S, 0, none⟩)), (21, .bool true)] 31 G a w | 20 => SG [(1, .pointer (some ⟨S, 0, none⟩)), (21, .bool true), (22, .pointer (some ⟨S, 1, none⟩))] 31 G a w | 21 => SG [(1, .pointer (some ⟨S, 0, none⟩)), (21, .bool true), (23, .int .i64 Y)] 31 G a w | 22 => SG [(1, .pointer (some ⟨S, 0, none⟩)), (21, .bool true), (24, .bool true)] 31 G a w | 23 => SG [(1, .pointer (some ⟨S, 0, none⟩)), (25, .bool true)] 31 G a w | 24 => SG [(1, .pointer (some ⟨S, 0, none⟩)), (26, .bool true)] 31 G a w | 25 => SG [(26, .bool true), (27, .pointer (some ⟨S, 1, none⟩))] 31 G a w | 26 => SG [(26, .bool true), (28, .int .i64 Y)] 31 G a w | 27 => SG [(26, .bool true), (29, .bool true)] 31 G a w | 28 => SG [(30, .bool true)] 31 G a w | _ => SG [(2, .bool true)] 31 G a w) (show SG _ _ G a w from h0) ⟨?_, ?_, ?_, ?_, ?_, ?_, ?_, ?_, ?_, ?_, ?_, ?_, ?_, ?_, ?_, ?_, ?_, ?_, ?_, ?_, ?_, ?_, ?_, ?_, ?_, ?_, ?_, ?_, ?_, trivial⟩ ?_
  · intro a w hI
    have hI : SG _ _ G a w := hI
    have e1 := hI.g 1 rfl
    go_simp
    exact hI.put (d := 3) (by decide) (by simp) hI.wp
  · intro a w hI
    have hI : SG _ _ G a w := hI
    have e3 := hI.g 3 rfl
    have cc0 := s0 w hI.wp
    go_simp
    exact hI.put (d := 4) (by decide) (by simp) hI.wp
  · intro a w hI
    have hI : SG _ _ G a w := hI
    have e4 := hI.g 4 rfl
    go_simp
    exact hI.put (d := 5) (by decide) (by simp) hI.wp
  · intro a w hI
    have hI : SG _ _ G a w := hI
    have e5 := hI.g 5 rfl
    go_simp
    exact hI.put (d := 6) (by decide) (by simp) hI.wp
  · intro a w hI
    have hI : SG _ _ G a w := hI
    have e1 := hI.g 1 rfl
    have e6 := hI.g 6 rfl
    have f6 := slot_bool e6
    go_simp
    exact hI.put (d := 7) (by decide) (by simp) hI.wp
  · intro a w hI
    have hI : SG _ _ G a w := hI
    have e7 := hI.g 7 rfl
    have e6 := hI.g 6 rfl
    have f6 := slot_bool e6
    have cc0 := s0 w hI.wp
    go_simp
    exact hI.put (d := 8) (by decide) (by simp) hI.wp
  · intro a w hI
    have hI : SG _ _ G a w := hI
    have e8 := hI.g 8 rfl
    have e6 := hI.g 6 rfl
    have f6 := slot_bool e6
    go_simp
    exact hI.put (d := 9) (by decide) (by simp) hI.wp
  · intro a w hI
    have hI : SG _ _ G a w := hI
    have e6 := hI.g 6 rfl
    have e9 := hI.g 9 rfl
    go_simp
    exact hI.put (d := 10) (by decide) (by simp) hI.wp
  · intro a w hI
    have hI : SG _ _ G a w := hI
    have e10 := hI.g 10 rfl
    go_simp
    exact hI.put (d := 11) (by decide) (by simp) hI.wp
  · intro a w hI
    have hI : SG _ _ G a w := hI
    have e1 := hI.g 1 rfl
    have e11 := hI.g 11 rfl
    have f11 := slot_bool e11
    go_simp
    exact hI.put (d := 12) (by decide) (by simp) hI.wp
  · intro a w hI
    have hI : SG _ _ G a w := hI
    have e12 := hI.g 12 rfl
    have e11 := hI.g 11 rfl
    have f11 := slot_bool e11
    have cc0 := s2 w hI.wp
    go_simp
    exact hI.put (d := 13) (by decide) (by simp) hI.wp
  · intro a w hI
    have hI : SG _ _ G a w := hI
    have e13 := hI.g 13 rfl
    have e11 := hI.g 11 rfl
    have f11 := slot_bool e11
    go_simp
    exact hI.put (d := 14) (by decide) (by simp) hI.wp
  · intro a w hI
    have hI : SG _ _ G a w := hI
    have e11 := hI.g 11 rfl
    have e14 := hI.g 14 rfl
    go_simp
    exact hI.put (d := 15) (by decide) (by simp) hI.wp
  · intro a w hI
    have hI : SG _ _ G a w := hI
    have e15 := hI.g 15 rfl
    go_simp
    exact hI.put (d := 16) (by decide) (by simp) hI.wp
  · intro a w hI
    have hI : SG _ _ G a w := hI
    have e1 := hI.g 1 rfl
    have e16 := hI.g 16 rfl
    have f16 := slot_bool e16
    go_simp
    exact hI.put (d := 17) (by decide) (by simp) hI.wp
  · intro a w hI
    have hI : SG _ _ G a w := hI
    have e17 := hI.g 17 rfl
    have e16 := hI.g 16 rfl
    have f16 := slot_bool e16
    have cc0 := s2 w hI.wp
    go_simp
    exact hI.put (d := 18) (by decide) (by simp) hI.wp
  · intro a w hI
    have hI : SG _ _ G a w := hI
    have e18 := hI.g 18 rfl
    have e16 := hI.g 16 rfl
    have f16 := slot_bool e16
    go_simp
    exact hI.put (d := 19) (by decide) (by simp) hI.wp
  · intro a w hI
    have hI : SG _ _ G a w := hI
    have e16 := hI.g 16 rfl
    have e19 := hI.g 19 rfl
    go_simp
    exact hI.put (d := 20) (by decide) (by simp) hI.wp
  · intro a w hI
    have hI : SG _ _ G a w := hI
    have e20 := hI.g 20 rfl
    go_simp
    exact hI.put (d := 21) (by decide) (by simp) hI.wp
  · intro a w hI
    have hI : SG _ _ G a w := hI
    have e1 := hI.g 1 rfl
    have e21 := hI.g 21 rfl
    have f21 := slot_bool e21
    go_simp
    exact hI.put (d := 22) (by decide) (by simp) hI.wp
  · intro a w hI
    have hI : SG _ _ G a w := hI
    have e22 := hI.g 22 rfl
    have e21 := hI.g 21 rfl
    have f21 := slot_bool e21
    have cc0 := s1 w hI.wp
    go_simp
    exact hI.put (d := 23) (by decide) (by simp) hI.wp
  · intro a w hI
    have hI : SG _ _ G a w := hI
    have e23 := hI.g 23 rfl
    have e21 := hI.g 21 rfl
    have f21 := slot_bool e21
    go_simp
    exact hI.put (d := 24) (by decide) (by simp) hI.wp
  · intro a w hI
    have hI : SG _ _ G a w := hI
    have e21 := hI.g 21 rfl
    have e24 := hI.g 24 rfl
    go_simp
    exact hI.put (d := 25) (by decide) (by simp) hI.wp
  · intro a w hI
    have hI : SG _ _ G a w := hI
    have e25 := hI.g 25 rfl
    go_simp
    exact hI.put (d := 26) (by decide) (by simp) hI.wp
  · intro a w hI
    have hI : SG _ _ G a w := hI
    have e1 := hI.g 1 rfl
    have e26 := hI.g 26 rfl
    have f26 := slot_bool e26
    go_simp
    exact hI.put (d := 27) (by decide) (by simp) hI.wp
  · intro a w hI
    have hI : SG _ _ G a w := hI
    have e27 := hI.g 27 rfl
    have e26 := hI.g 26 rfl
    have f26 := slot_bool e26
    have cc0 := s1 w hI.wp
    go_simp
    exact hI.put (d := 28) (by decide) (by simp) hI.wp
  · intro a w hI
    have hI : SG _ _ G a w := hI
    have e28 := hI.g 28 rfl
    have e26 := hI.g 26 rfl
    have f26 := slot_bool e26
    go_simp
    exact hI.put (d := 29) (by decide) (by simp) hI.wp
  · intro a w hI
    have hI : SG _ _ G a w := hI
    have e26 := hI.g 26 rfl
    have e29 := hI.g 29 rfl
    go_simp
    exact hI.put (d := 30) (by decide) (by simp) hI.wp
  · intro a w hI
    have hI : SG _ _ G a w := hI
    have e30 := hI.g 30 rfl
    go_simp
    exact hI.put (d := 2) (by decide) (by simp) hI.wp
  · intro a w hI
    have hI : SG _ _ G a w := hI
    exact hQ a w hI
noncomputable def C33 : Code := Try.f33.body.getD .skip
set_option maxRecDepth 100000 in
set_option maxHeartbeats 4000000 in
theorem at0 (n : Nat) (W : World) (y : Nat) (Q : Exit → Act → World → Prop) (a : Act) (h0 : SR [(0, .int .i64 y)] 19 [] W a W)
    (hQ : ∀ a, SR [(0, .int .i64 y), (2, .pointer (some ⟨W.heap.size, 0, none⟩))] 19 [] (W.alloc (.cells #[.int .u8 0, .int .u8 0] 32)) a (W.alloc (.cells #[.int .u8 0, .int .u8 0] 32)) → Q .normal a (W.alloc (.cells #[.int .u8 0, .int .u8 0] 32))) : (regOf 0 C33).wpIn Fence.wide n Try.prog Q a W := by
  simp only [regOf, C33, Try.f33, Option.getD, Nat.reduceBEq, Bool.false_eq_true, if_true, if_false]
  refine region_sq (fun k_ a w => match k_ with | 0 => SR [(0, .int .i64 y)] 19 [] (W) a w | _ => SR [(0, .int .i64 y), (2, .pointer (some ⟨W.heap.size, 0, none⟩))] 19 [] (W.alloc (.cells #[.int .u8 0, .int .u8 0] 32)) a w) (show SR _ _ _ _ a W from h0) ⟨?_, trivial⟩ ?_
  · intro a w hI
    have hI : SR _ _ _ _ a w := hI
    have hw : w = W := hI.wp
    subst hw
    go_simp
    exact hI.put (d := 2) (by decide) (by simp)
  · intro a w hI
    have hI : SR _ _ _ _ a w := hI
    obtain rfl := hI.wp
    exact hQ a hI
set_option maxRecDepth 100000 in
set_option maxHeartbeats 4000000 in
theorem at1 (n : Nat) (W : World) (y R : Nat) (Q : Exit → Act → World → Prop) (a : Act) (h0 : SR [(0, .int .i64 y), (2, .pointer (some ⟨R, 0, none⟩))] 19 [] W a W)
    (hQ : ∀ a, SR [(0, .int .i64 y), (2, .pointer (some ⟨R, 0, none⟩)), (3, .pointer (some ⟨W.heap.size, 0, none⟩))] 19 [] (W.alloc (.cells #[.int .u8 2, .int .u8 0] 32)) a (W.alloc (.cells #[.int .u8 2, .int .u8 0] 32)) → Q .normal a (W.alloc (.cells #[.int .u8 2, .int .u8 0] 32))) : (regOf 1 C33).wpIn Fence.wide n Try.prog Q a W := by
  simp only [regOf, C33, Try.f33, Option.getD, Nat.reduceBEq, Bool.false_eq_true, if_true, if_false]
  refine region_sq (fun k_ a w => match k_ with | 0 => SR [(0, .int .i64 y), (2, .pointer (some ⟨R, 0, none⟩))] 19 [] (W) a w | 1 => SR [(0, .int .i64 y), (2, .pointer (some ⟨R, 0, none⟩)), (4, .agg #[.int .u8 2, .int .u8 0])] 19 [] (W) a w | 2 => SR [(0, .int .i64 y), (2, .pointer (some ⟨R, 0, none⟩)), (4, .agg #[.int .u8 2, .int .u8 0]), (3, .pointer (some ⟨W.heap.size, 0, none⟩))] 19 [] (W.alloc (.cells #[.int .u8 0, .int .u8 0] 32)) a w | _ => SR [(0, .int .i64 y), (2, .pointer (some ⟨R, 0, none⟩)), (3, .pointer (some ⟨W.heap.size, 0, none⟩))] 19 [] (W.alloc (.cells #[.int .u8 2, .int .u8 0] 32)) a w) (show SR _ _ _ _ a W from h0) ⟨?_, ?_, ?_, trivial⟩ ?_
  · intro a w hI
    have hI : SR _ _ _ _ a w := hI
    have hw : w = W := hI.wp
    subst hw
    go_simp
    exact hI.put (d := 4) (by decide) (by simp)
  · intro a w hI
    have hI : SR _ _ _ _ a w := hI
    have hw : w = W := hI.wp
    subst hw
    go_simp
    exact hI.put (d := 3) (by decide) (by simp)
  · intro a w hI
    have hI : SR _ _ _ _ a w := hI
    have e3 := hI.g 3 rfl
    have e4 := hI.g 4 rfl
    obtain rfl := hI.wp
    have hn0 := cell2_new W 32 (.int .u8 0) (.int .u8 0)
    obtain ⟨hn1, hn2, hn3, hn5⟩ := hn0
    have hn4 := alloc_set2 W 32 (.int .u8 0) (.int .u8 0) (.int .u8 2) (.int .u8 0)
    go_simp
    exact hI.none.sub (by intro p hp; simp only [List.mem_cons, List.not_mem_nil, or_false] at hp ⊢; rcases hp with h | h | h <;> simp [h])
  · intro a w hI
    have hI : SR _ _ _ _ a w := hI
    obtain rfl := hI.wp
    exact hQ a hI
set_option maxRecDepth 100000 in
set_option maxHeartbeats 4000000 in
theorem at2 (n : Nat) (W : World) (y R D : Nat)  (Q : Exit → Act → World → Prop) (a : Act) (h0 : SR [(0, .int .i64 y), (2, .pointer (some ⟨R, 0, none⟩)), (3, .pointer (some ⟨D, 0, none⟩))] 19 [] W a W)
    (hQ : ∀ a, SR [(0, .int .i64 y), (2, .pointer (some ⟨R, 0, none⟩)), (3, .pointer (some ⟨D, 0, none⟩)), (5, .bool ((y : Int) == 0))] 19 [] (W) a (W) → Q .normal a (W)) : (regOf 2 C33).wpIn Fence.wide n Try.prog Q a W := by
  simp only [regOf, C33, Try.f33, Option.getD, Nat.reduceBEq, Bool.false_eq_true, if_true, if_false]
  refine region_sq (fun k_ a w => match k_ with | 0 => SR [(0, .int .i64 y), (2, .pointer (some ⟨R, 0, none⟩)), (3, .pointer (some ⟨D, 0, none⟩))] 19 [] (W) a w | 1 => SR [(0, .int .i64 y), (2, .pointer (some ⟨R, 0, none⟩)), (3, .pointer (some ⟨D, 0, none⟩)), (6, .int .i64 y)] 19 [] (W) a w | 2 => SR [(0, .int .i64 y), (2, .pointer (some ⟨R, 0, none⟩)), (3, .pointer (some ⟨D, 0, none⟩)), (7, .bool ((y : Int) == 0))] 19 [] (W) a w | _ => SR [(0, .int .i64 y), (2, .pointer (some ⟨R, 0, none⟩)), (3, .pointer (some ⟨D, 0, none⟩)), (5, .bool ((y : Int) == 0))] 19 [] (W) a w) (show SR _ _ _ _ a W from h0) ⟨?_, ?_, ?_, trivial⟩ ?_
  · intro a w hI
    have hI : SR _ _ _ _ a w := hI
    have e0 := hI.g 0 rfl
    have hw : w = W := hI.wp
    subst hw
    go_simp
    exact hI.put (d := 6) (by decide) (by simp)
  · intro a w hI
    have hI : SR _ _ _ _ a w := hI
    have e6 := hI.g 6 rfl
    have hw : w = W := hI.wp
    subst hw
    go_simp
    exact hI.put (d := 7) (by decide) (by simp)
  · intro a w hI
    have hI : SR _ _ _ _ a w := hI
    have e7 := hI.g 7 rfl
    have hw : w = W := hI.wp
    subst hw
    go_simp
    exact hI.put (d := 5) (by decide) (by simp)
  · intro a w hI
    have hI : SR _ _ _ _ a w := hI
    have hw : w = W := hI.wp
    subst hw
    exact hQ a hI
set_option maxRecDepth 100000 in
set_option maxHeartbeats 4000000 in
theorem at3t (n : Nat) (W : World) (y R D : Nat) (h : 15 < y) (Q : Exit → Act → World → Prop) (a : Act) (h0 : SR [(0, .int .i64 y), (2, .pointer (some ⟨R, 0, none⟩)), (3, .pointer (some ⟨D, 0, none⟩))] 19 [] W a W)
    (hQ : ∀ a, SR [(0, .int .i64 y), (2, .pointer (some ⟨R, 0, none⟩)), (3, .pointer (some ⟨D, 0, none⟩)), (8, .bool true)] 19 [] (W) a (W) → Q .normal a (W)) : (regOf 3 C33).wpIn Fence.wide n Try.prog Q a W := by
  simp only [regOf, C33, Try.f33, Option.getD, Nat.reduceBEq, Bool.false_eq_true, if_true, if_false]
  refine region_sq (fun k_ a w => match k_ with | 0 => SR [(0, .int .i64 y), (2, .pointer (some ⟨R, 0, none⟩)), (3, .pointer (some ⟨D, 0, none⟩))] 19 [] (W) a w | 1 => SR [(0, .int .i64 y), (2, .pointer (some ⟨R, 0, none⟩)), (3, .pointer (some ⟨D, 0, none⟩)), (9, .int .i64 y)] 19 [] (W) a w | 2 => SR [(0, .int .i64 y), (2, .pointer (some ⟨R, 0, none⟩)), (3, .pointer (some ⟨D, 0, none⟩)), (10, .bool true)] 19 [] (W) a w | _ => SR [(0, .int .i64 y), (2, .pointer (some ⟨R, 0, none⟩)), (3, .pointer (some ⟨D, 0, none⟩)), (8, .bool true)] 19 [] (W) a w) (show SR _ _ _ _ a W from h0) ⟨?_, ?_, ?_, trivial⟩ ?_
  · intro a w hI
    have hI : SR _ _ _ _ a w := hI
    have e0 := hI.g 0 rfl
    have hw : w = W := hI.wp
    subst hw
    go_simp
    exact hI.put (d := 9) (by decide) (by simp)
  · intro a w hI
    have hI : SR _ _ _ _ a w := hI
    have e9 := hI.g 9 rfl
    have hw : w = W := hI.wp
    subst hw
    have z : (15 : Int) < y := by omega
    go_simp
    exact hI.put (d := 10) (by decide) (by simp)
  · intro a w hI
    have hI : SR _ _ _ _ a w := hI
    have e10 := hI.g 10 rfl
    have hw : w = W := hI.wp
    subst hw
    go_simp
    exact hI.put (d := 8) (by decide) (by simp)
  · intro a w hI
    have hI : SR _ _ _ _ a w := hI
    have hw : w = W := hI.wp
    subst hw
    exact hQ a hI
set_option maxRecDepth 100000 in
set_option maxHeartbeats 4000000 in
theorem at3f (n : Nat) (W : World) (y R D : Nat) (h : ¬ 15 < y) (Q : Exit → Act → World → Prop) (a : Act) (h0 : SR [(0, .int .i64 y), (2, .pointer (some ⟨R, 0, none⟩)), (3, .pointer (some ⟨D, 0, none⟩))] 19 [] W a W)
    (hQ : ∀ a, SR [(0, .int .i64 y), (2, .pointer (some ⟨R, 0, none⟩)), (3, .pointer (some ⟨D, 0, none⟩)), (8, .bool false)] 19 [] (W) a (W) → Q .normal a (W)) : (regOf 3 C33).wpIn Fence.wide n Try.prog Q a W := by
  simp only [regOf, C33, Try.f33, Option.getD, Nat.reduceBEq, Bool.false_eq_true, if_true, if_false]
  refine region_sq (fun k_ a w => match k_ with | 0 => SR [(0, .int .i64 y), (2, .pointer (some ⟨R, 0, none⟩)), (3, .pointer (some ⟨D, 0, none⟩))] 19 [] (W) a w | 1 => SR [(0, .int .i64 y), (2, .pointer (some ⟨R, 0, none⟩)), (3, .pointer (some ⟨D, 0, none⟩)), (9, .int .i64 y)] 19 [] (W) a w | 2 => SR [(0, .int .i64 y), (2, .pointer (some ⟨R, 0, none⟩)), (3, .pointer (some ⟨D, 0, none⟩)), (10, .bool false)] 19 [] (W) a w | _ => SR [(0, .int .i64 y), (2, .pointer (some ⟨R, 0, none⟩)), (3, .pointer (some ⟨D, 0, none⟩)), (8, .bool false)] 19 [] (W) a w) (show SR _ _ _ _ a W from h0) ⟨?_, ?_, ?_, trivial⟩ ?_
  · intro a w hI
    have hI : SR _ _ _ _ a w := hI
    have e0 := hI.g 0 rfl
    have hw : w = W := hI.wp
    subst hw
    go_simp
    exact hI.put (d := 9) (by decide) (by simp)
  · intro a w hI
    have hI : SR _ _ _ _ a w := hI
    have e9 := hI.g 9 rfl
    have hw : w = W := hI.wp
    subst hw
    have z : ¬ (15 : Int) < y := by omega
    go_simp
    exact hI.put (d := 10) (by decide) (by simp)
  · intro a w hI
    have hI : SR _ _ _ _ a w := hI
    have e10 := hI.g 10 rfl
    have hw : w = W := hI.wp
    subst hw
    go_simp
    exact hI.put (d := 8) (by decide) (by simp)
  · intro a w hI
    have hI : SR _ _ _ _ a w := hI
    have hw : w = W := hI.wp
    subst hw
    exact hQ a hI
set_option maxRecDepth 100000 in
set_option maxHeartbeats 4000000 in
theorem at4t (n : Nat) (W : World) (y R D : Nat) (h : 11 < y) (Q : Exit → Act → World → Prop) (a : Act) (h0 : SR [(0, .int .i64 y), (2, .pointer (some ⟨R, 0, none⟩)), (3, .pointer (some ⟨D, 0, none⟩))] 19 [] W a W)
    (hQ : ∀ a, SR [(0, .int .i64 y), (2, .pointer (some ⟨R, 0, none⟩)), (3, .pointer (some ⟨D, 0, none⟩)), (11, .bool true)] 19 [] (W) a (W) → Q .normal a (W)) : (regOf 4 C33).wpIn Fence.wide n Try.prog Q a W := by
  simp only [regOf, C33, Try.f33, Option.getD, Nat.reduceBEq, Bool.false_eq_true, if_true, if_false]
  refine region_sq (fun k_ a w => match k_ with | 0 => SR [(0, .int .i64 y), (2, .pointer (some ⟨R, 0, none⟩)), (3, .pointer (some ⟨D, 0, none⟩))] 19 [] (W) a w | 1 => SR [(0, .int .i64 y), (2, .pointer (some ⟨R, 0, none⟩)), (3, .pointer (some ⟨D, 0, none⟩)), (12, .int .i64 y)] 19 [] (W) a w | 2 => SR [(0, .int .i64 y), (2, .pointer (some ⟨R, 0, none⟩)), (3, .pointer (some ⟨D, 0, none⟩)), (13, .bool true)] 19 [] (W) a w | _ => SR [(0, .int .i64 y), (2, .pointer (some ⟨R, 0, none⟩)), (3, .pointer (some ⟨D, 0, none⟩)), (11, .bool true)] 19 [] (W) a w) (show SR _ _ _ _ a W from h0) ⟨?_, ?_, ?_, trivial⟩ ?_
  · intro a w hI
    have hI : SR _ _ _ _ a w := hI
    have e0 := hI.g 0 rfl
    have hw : w = W := hI.wp
    subst hw
    go_simp
    exact hI.put (d := 12) (by decide) (by simp)
  · intro a w hI
    have hI : SR _ _ _ _ a w := hI
    have e12 := hI.g 12 rfl
    have hw : w = W := hI.wp
    subst hw
    have z : (11 : Int) < y := by omega
    go_simp
    exact hI.put (d := 13) (by decide) (by simp)
  · intro a w hI
    have hI : SR _ _ _ _ a w := hI
    have e13 := hI.g 13 rfl
    have hw : w = W := hI.wp
    subst hw
    go_simp
    exact hI.put (d := 11) (by decide) (by simp)
  · intro a w hI
    have hI : SR _ _ _ _ a w := hI
    have hw : w = W := hI.wp
    subst hw
    exact hQ a hI
set_option maxRecDepth 100000 in
set_option maxHeartbeats 4000000 in
theorem at4f (n : Nat) (W : World) (y R D : Nat) (h : ¬ 11 < y) (Q : Exit → Act → World → Prop) (a : Act) (h0 : SR [(0, .int .i64 y), (2, .pointer (some ⟨R, 0, none⟩)), (3, .pointer (some ⟨D, 0, none⟩))] 19 [] W a W)
    (hQ : ∀ a, SR [(0, .int .i64 y), (2, .pointer (some ⟨R, 0, none⟩)), (3, .pointer (some ⟨D, 0, none⟩)), (11, .bool false)] 19 [] (W) a (W) → Q .normal a (W)) : (regOf 4 C33).wpIn Fence.wide n Try.prog Q a W := by
  simp only [regOf, C33, Try.f33, Option.getD, Nat.reduceBEq, Bool.false_eq_true, if_true, if_false]
  refine region_sq (fun k_ a w => match k_ with | 0 => SR [(0, .int .i64 y), (2, .pointer (some ⟨R, 0, none⟩)), (3, .pointer (some ⟨D, 0, none⟩))] 19 [] (W) a w | 1 => SR [(0, .int .i64 y), (2, .pointer (some ⟨R, 0, none⟩)), (3, .pointer (some ⟨D, 0, none⟩)), (12, .int .i64 y)] 19 [] (W) a w | 2 => SR [(0, .int .i64 y), (2, .pointer (some ⟨R, 0, none⟩)), (3, .pointer (some ⟨D, 0, none⟩)), (13, .bool false)] 19 [] (W) a w | _ => SR [(0, .int .i64 y), (2, .pointer (some ⟨R, 0, none⟩)), (3, .pointer (some ⟨D, 0, none⟩)), (11, .bool false)] 19 [] (W) a w) (show SR _ _ _ _ a W from h0) ⟨?_, ?_, ?_, trivial⟩ ?_
  · intro a w hI
    have hI : SR _ _ _ _ a w := hI
    have e0 := hI.g 0 rfl
    have hw : w = W := hI.wp
    subst hw
    go_simp
    exact hI.put (d := 12) (by decide) (by simp)
  · intro a w hI
    have hI : SR _ _ _ _ a w := hI
    have e12 := hI.g 12 rfl
    have hw : w = W := hI.wp
    subst hw
    have z : ¬ (11 : Int) < y := by omega
    go_simp
    exact hI.put (d := 13) (by decide) (by simp)
  · intro a w hI
    have hI : SR _ _ _ _ a w := hI
    have e13 := hI.g 13 rfl
    have hw : w = W := hI.wp
    subst hw
    go_simp
    exact hI.put (d := 11) (by decide) (by simp)
  · intro a w hI
    have hI : SR _ _ _ _ a w := hI
    have hw : w = W := hI.wp
    subst hw
    exact hQ a hI
set_option maxRecDepth 100000 in
set_option maxHeartbeats 4000000 in
theorem at5 (n : Nat) {G G1 : World → Prop} (hS : Stable G) (R D : Nat) (cw : ∀ w, G w → ∃ v, w.cell? ⟨D, 0, none⟩ = some v) (fw : ∀ w, G w → w.frozen? ⟨D, 0, none⟩ = false) (hst : ∀ w, G w → G1 (w.setCell ⟨D, 0, none⟩ (.int .u8 1))) (Q : Exit → Act → World → Prop) (a : Act) (w : World) (h0 : SG [(2, .pointer (some ⟨R, 0, none⟩)), (3, .pointer (some ⟨D, 0, none⟩))] 19 G a w)
    (hQ : ∀ a w, SG [(2, .pointer (some ⟨R, 0, none⟩)), (3, .pointer (some ⟨D, 0, none⟩))] 19 G1 a w → Q .normal a w) : (regOf 5 C33).wpIn Fence.wide n Try.prog Q a w := by
  simp only [regOf, C33, Try.f33, Option.getD, Nat.reduceBEq, Bool.false_eq_true, if_true, if_false]
  refine region_sq (fun k_ a w => match k_ with | 0 => SG [(2, .pointer (some ⟨R, 0, none⟩)), (3, .pointer (some ⟨D, 0, none⟩))] 19 G a w | 1 => SG [(2, .pointer (some ⟨R, 0, none⟩)), (3, .pointer (some ⟨D, 0, none⟩)), (14, .pointer (some ⟨D, 0, none⟩))] 19 G a w | _ => SG [(2, .pointer (some ⟨R, 0, none⟩)), (3, .pointer (some ⟨D, 0, none⟩))] 19 G1 a w) (show SG _ _ G a w from h0) ⟨?_, ?_, trivial⟩ ?_
  · intro a w hI
    have hI : SG _ _ G a w := hI
    have e3 := hI.g 3 rfl
    go_simp
    exact hI.put (d := 14) (by decide) (by simp) hI.wp
  · intro a w hI
    have hI : SG _ _ G a w := hI
    have e14 := hI.g 14 rfl
    obtain ⟨v0, cw0⟩ := cw w hI.wp
    have fw0 := fw w hI.wp
    go_simp
    exact (hI.none (hst w hI.wp)).sub (by intro p hp; simp only [List.mem_cons, List.not_mem_nil, or_false] at hp ⊢; rcases hp with h | h <;> simp [h])
  · intro a w hI
    have hI : SG _ _ G1 a w := hI
    exact hQ a w hI
set_option maxRecDepth 100000 in
set_option maxHeartbeats 4000000 in
theorem at6 (n : Nat) {G G1 : World → Prop} (hS : Stable G) (R D : Nat) (cw : ∀ w, G w → ∃ v, w.cell? ⟨D, 0, none⟩ = some v) (fw : ∀ w, G w → w.frozen? ⟨D, 0, none⟩ = false) (hst : ∀ w, G w → G1 (w.setCell ⟨D, 0, none⟩ (.int .u8 0))) (Q : Exit → Act → World → Prop) (a : Act) (w : World) (h0 : SG [(2, .pointer (some ⟨R, 0, none⟩)), (3, .pointer (some ⟨D, 0, none⟩))] 19 G a w)
    (hQ : ∀ a w, SG [(2, .pointer (some ⟨R, 0, none⟩)), (3, .pointer (some ⟨D, 0, none⟩))] 19 G1 a w → Q .normal a w) : (regOf 6 C33).wpIn Fence.wide n Try.prog Q a w := by
  simp only [regOf, C33, Try.f33, Option.getD, Nat.reduceBEq, Bool.false_eq_true, if_true, if_false]
  refine region_sq (fun k_ a w => match k_ with | 0 => SG [(2, .pointer (some ⟨R, 0, none⟩)), (3, .pointer (some ⟨D, 0, none⟩))] 19 G a w | 1 => SG [(2, .pointer (some ⟨R, 0, none⟩)), (3, .pointer (some ⟨D, 0, none⟩)), (15, .pointer (some ⟨D, 0, none⟩))] 19 G a w | _ => SG [(2, .pointer (some ⟨R, 0, none⟩)), (3, .pointer (some ⟨D, 0, none⟩))] 19 G1 a w) (show SG _ _ G a w from h0) ⟨?_, ?_, trivial⟩ ?_
  · intro a w hI
    have hI : SG _ _ G a w := hI
    have e3 := hI.g 3 rfl
    go_simp
    exact hI.put (d := 15) (by decide) (by simp) hI.wp
  · intro a w hI
    have hI : SG _ _ G a w := hI
    have e15 := hI.g 15 rfl
    obtain ⟨v0, cw0⟩ := cw w hI.wp
    have fw0 := fw w hI.wp
    go_simp
    exact (hI.none (hst w hI.wp)).sub (by intro p hp; simp only [List.mem_cons, List.not_mem_nil, or_false] at hp ⊢; rcases hp with h | h <;> simp [h])
  · intro a w hI
    have hI : SG _ _ G1 a w := hI
    exact hQ a w hI
set_option maxRecDepth 100000 in
set_option maxHeartbeats 4000000 in
theorem at7 (n : Nat) {G G1 : World → Prop} (hS : Stable G) (R D : Nat) (cw : ∀ w, G w → ∃ v, w.cell? ⟨D, 0, none⟩ = some v) (fw : ∀ w, G w → w.frozen? ⟨D, 0, none⟩ = false) (hst : ∀ w, G w → G1 (w.setCell ⟨D, 0, none⟩ (.int .u8 3))) (Q : Exit → Act → World → Prop) (a : Act) (w : World) (h0 : SG [(2, .pointer (some ⟨R, 0, none⟩)), (3, .pointer (some ⟨D, 0, none⟩))] 19 G a w)
    (hQ : ∀ a w, SG [(2, .pointer (some ⟨R, 0, none⟩)), (3, .pointer (some ⟨D, 0, none⟩))] 19 G1 a w → Q .normal a w) : (regOf 7 C33).wpIn Fence.wide n Try.prog Q a w := by
  simp only [regOf, C33, Try.f33, Option.getD, Nat.reduceBEq, Bool.false_eq_true, if_true, if_false]
  refine region_sq (fun k_ a w => match k_ with | 0 => SG [(2, .pointer (some ⟨R, 0, none⟩)), (3, .pointer (some ⟨D, 0, none⟩))] 19 G a w | 1 => SG [(2, .pointer (some ⟨R, 0, none⟩)), (3, .pointer (some ⟨D, 0, none⟩)), (16, .pointer (some ⟨D, 0, none⟩))] 19 G a w | _ => SG [(2, .pointer (some ⟨R, 0, none⟩)), (3, .pointer (some ⟨D, 0, none⟩))] 19 G1 a w) (show SG _ _ G a w from h0) ⟨?_, ?_, trivial⟩ ?_
  · intro a w hI
    have hI : SG _ _ G a w := hI
    have e3 := hI.g 3 rfl
    go_simp
    exact hI.put (d := 16) (by decide) (by simp) hI.wp
  · intro a w hI
    have hI : SG _ _ G a w := hI
    have e16 := hI.g 16 rfl
    obtain ⟨v0, cw0⟩ := cw w hI.wp
    have fw0 := fw w hI.wp
    go_simp
    exact (hI.none (hst w hI.wp)).sub (by intro p hp; simp only [List.mem_cons, List.not_mem_nil, or_false] at hp ⊢; rcases hp with h | h <;> simp [h])
  · intro a w hI
    have hI : SG _ _ G1 a w := hI
    exact hQ a w hI
set_option maxRecDepth 100000 in
set_option maxHeartbeats 4000000 in
theorem at8 (n : Nat) {G G1 : World → Prop} (hS : Stable G) (R D : Nat) (cw : ∀ w, G w → ∃ v, w.cell? ⟨D, 1, none⟩ = some v) (fw : ∀ w, G w → w.frozen? ⟨D, 1, none⟩ = false) (hst : ∀ w, G w → G1 (w.setCell ⟨D, 1, none⟩ (.int .u8 0))) (Q : Exit → Act → World → Prop) (a : Act) (w : World) (h0 : SG [(2, .pointer (some ⟨R, 0, none⟩)), (3, .pointer (some ⟨D, 0, none⟩))] 19 G a w)
    (hQ : ∀ a w, SG [(2, .pointer (some ⟨R, 0, none⟩)), (3, .pointer (some ⟨D, 0, none⟩))] 19 G1 a w → Q .normal a w) : (regOf 8 C33).wpIn Fence.wide n Try.prog Q a w := by
  simp only [regOf, C33, Try.f33, Option.getD, Nat.reduceBEq, Bool.false_eq_true, if_true, if_false]
  refine region_sq (fun k_ a w => match k_ with | 0 => SG [(2, .pointer (some ⟨R, 0, none⟩)), (3, .pointer (some ⟨D, 0, none⟩))] 19 G a w | 1 => SG [(2, .pointer (some ⟨R, 0, none⟩)), (3, .pointer (some ⟨D, 0, none⟩)), (17, .pointer (some ⟨D, 1, none⟩))] 19 G a w | _ => SG [(2, .pointer (some ⟨R, 0, none⟩)), (3, .pointer (some ⟨D, 0, none⟩))] 19 G1 a w) (show SG _ _ G a w from h0) ⟨?_, ?_, trivial⟩ ?_
  · intro a w hI
    have hI : SG _ _ G a w := hI
    have e3 := hI.g 3 rfl
    go_simp
    exact hI.put (d := 17) (by decide) (by simp) hI.wp
  · intro a w hI
    have hI : SG _ _ G a w := hI
    have e17 := hI.g 17 rfl
    obtain ⟨v0, cw0⟩ := cw w hI.wp
    have fw0 := fw w hI.wp
    go_simp
    exact (hI.none (hst w hI.wp)).sub (by intro p hp; simp only [List.mem_cons, List.not_mem_nil, or_false] at hp ⊢; rcases hp with h | h <;> simp [h])
  · intro a w hI
    have hI : SG _ _ G1 a w := hI
    exact hQ a w hI
set_option maxRecDepth 100000 in
set_option maxHeartbeats 4000000 in
theorem at9 (n : Nat) {G G1 : World → Prop} (R D k v : Nat) (d0 : ∀ w, G w → w.cell? ⟨D, 0, none⟩ = some (.int .u8 k)) (d1 : ∀ w, G w → w.cell? ⟨D, 1, none⟩ = some (.int .u8 v)) (cw : ∀ w, G w → (∃ v, w.cell? ⟨R, 0, none⟩ = some v) ∧ ∃ v, w.cell? ⟨R, 0 + 1, none⟩ = some v) (fw : ∀ w, G w → w.frozen? ⟨R, 0, none⟩ = false ∧ w.frozen? ⟨R, 0 + 1, none⟩ = false) (hst : ∀ w, G w → G1 ((w.setCell ⟨R, 0, none⟩ (.int .u8 k)).setCell ⟨R, 0 + 1, none⟩ (.int .u8 v))) (Q : Exit → Act → World → Prop) (a : Act) (w : World) (h0 : SG [(2, .pointer (some ⟨R, 0, none⟩)), (3, .pointer (some ⟨D, 0, none⟩))] 19 G a w)
    (hQ : ∀ a w, SG [(2, .pointer (some ⟨R, 0, none⟩))] 19 G1 a w → Q .normal a w) : (regOf 9 C33).wpIn Fence.wide n Try.prog Q a w := by
  simp only [regOf, C33, Try.f33, Option.getD, Nat.reduceBEq, Bool.false_eq_true, if_true, if_false]
  refine region_sq (fun k_ a w => match k_ with | 0 => SG [(2, .pointer (some ⟨R, 0, none⟩)), (3, .pointer (some ⟨D, 0, none⟩))] 19 G a w | 1 => SG [(2, .pointer (some ⟨R, 0, none⟩)), (18, .agg #[.int .u8 k, .int .u8 v])] 19 G a w | _ => SG [(2, .pointer (some ⟨R, 0, none⟩))] 19 G1 a w) (show SG _ _ G a w from h0) ⟨?_, ?_, trivial⟩ ?_
  · intro a w hI
    have hI : SG _ _ G a w := hI
    have e3 := hI.g 3 rfl
    have cc0 := d0 w hI.wp
    have cc1 := d1 w hI.wp
    go_simp
    exact hI.put (d := 18) (by decide) (by simp) hI.wp
  · intro a w hI
    have hI : SG _ _ G a w := hI
    have e2 := hI.g 2 rfl
    have e18 := hI.g 18 rfl
    obtain ⟨⟨v0, cw0⟩, v1, cw1⟩ := cw w hI.wp
    obtain ⟨fw0, fw1⟩ := fw w hI.wp
    go_simp
    exact (hI.none (hst w hI.wp)).sub (by intro p hp; simp only [List.mem_cons, List.not_mem_nil, or_false] at hp ⊢; simp [hp])
  · intro a w hI
    have hI : SG _ _ G1 a w := hI
    exact hQ a w hI
noncomputable def C34 : Code := Try.f34.body.getD .skip
set_option maxRecDepth 100000 in
set_option maxHeartbeats 4000000 in
theorem li0 (n : Nat) (W : World) (y : Nat) (Q : Exit → Act → World → Prop) (a : Act) (h0 : SR [(0, .int .i64 y)] 7 [] W a W)
    (hQ : ∀ a, SR [(0, .int .i64 y), (2, .pointer (some ⟨W.heap.size, 0, none⟩))] 7 [] (W.alloc (.cells #[.int .u8 0, .int .u8 0] 37)) a (W.alloc (.cells #[.int .u8 0, .int .u8 0] 37)) → Q .normal a (W.alloc (.cells #[.int .u8 0, .int .u8 0] 37))) : (regOf 0 C34).wpIn Fence.wide n Try.prog Q a W := by
  simp only [regOf, C34, Try.f34, Option.getD, Nat.reduceBEq, Bool.false_eq_true, if_true, if_false]
  refine region_sq (fun k_ a w => match k_ with | 0 => SR [(0, .int .i64 y)] 7 [] (W) a w | _ => SR [(0, .int .i64 y), (2, .pointer (some ⟨W.heap.size, 0, none⟩))] 7 [] (W.alloc (.cells #[.int .u8 0, .int .u8 0] 37)) a w) (show SR _ _ _ _ a W from h0) ⟨?_, trivial⟩ ?_
  · intro a w hI
    have hI : SR _ _ _ _ a w := hI
    have hw : w = W := hI.wp
    subst hw
    go_simp
    exact hI.put (d := 2) (by decide) (by simp)
  · intro a w hI
    have hI : SR _ _ _ _ a w := hI
    obtain rfl := hI.wp
    exact hQ a hI
set_option maxRecDepth 100000 in
set_option maxHeartbeats 4000000 in
theorem li1t (n : Nat) (W : World) (y R : Nat) (h : 15 < y) (Q : Exit → Act → World → Prop) (a : Act) (h0 : SR [(0, .int .i64 y), (2, .pointer (some ⟨R, 0, none⟩))] 7 [] W a W)
    (hQ : ∀ a, SR [(2, .pointer (some ⟨R, 0, none⟩)), (4, .bool true)] 7 [] (W) a (W) → Q .normal a (W)) : (regOf 1 C34).wpIn Fence.wide n Try.prog Q a W := by
  simp only [regOf, C34, Try.f34, Option.getD, Nat.reduceBEq, Bool.false_eq_true, if_true, if_false]
  refine region_sq (fun k_ a w => match k_ with | 0 => SR [(0, .int .i64 y), (2, .pointer (some ⟨R, 0, none⟩))] 7 [] (W) a w | 1 => SR [(2, .pointer (some ⟨R, 0, none⟩)), (3, .int .i64 y)] 7 [] (W) a w | _ => SR [(2, .pointer (some ⟨R, 0, none⟩)), (4, .bool true)] 7 [] (W) a w) (show SR _ _ _ _ a W from h0) ⟨?_, ?_, trivial⟩ ?_
  · intro a w hI
    have hI : SR _ _ _ _ a w := hI
    have e0 := hI.g 0 rfl
    have hw : w = W := hI.wp
    subst hw
    go_simp
    exact hI.put (d := 3) (by decide) (by simp)
  · intro a w hI
    have hI : SR _ _ _ _ a w := hI
    have e3 := hI.g 3 rfl
    have hw : w = W := hI.wp
    subst hw
    have z : (15 : Int) < y := by omega
    go_simp
    exact hI.put (d := 4) (by decide) (by simp)
  · intro a w hI
    have hI : SR _ _ _ _ a w := hI
    have hw : w = W := hI.wp
    subst hw
    exact hQ a hI
set_option maxRecDepth 100000 in
set_option maxHeartbeats 4000000 in
theorem li1f (n : Nat) (W : World) (y R : Nat) (h : ¬ 15 < y) (Q : Exit → Act → World → Prop) (a : Act) (h0 : SR [(0, .int .i64 y), (2, .pointer (some ⟨R, 0, none⟩))] 7 [] W a W)
    (hQ : ∀ a, SR [(2, .pointer (some ⟨R, 0, none⟩)), (4, .bool false)] 7 [] (W) a (W) → Q .normal a (W)) : (regOf 1 C34).wpIn Fence.wide n Try.prog Q a W := by
  simp only [regOf, C34, Try.f34, Option.getD, Nat.reduceBEq, Bool.false_eq_true, if_true, if_false]
  refine region_sq (fun k_ a w => match k_ with | 0 => SR [(0, .int .i64 y), (2, .pointer (some ⟨R, 0, none⟩))] 7 [] (W) a w | 1 => SR [(2, .pointer (some ⟨R, 0, none⟩)), (3, .int .i64 y)] 7 [] (W) a w | _ => SR [(2, .pointer (some ⟨R, 0, none⟩)), (4, .bool false)] 7 [] (W) a w) (show SR _ _ _ _ a W from h0) ⟨?_, ?_, trivial⟩ ?_
  · intro a w hI
    have hI : SR _ _ _ _ a w := hI
    have e0 := hI.g 0 rfl
    have hw : w = W := hI.wp
    subst hw
    go_simp
    exact hI.put (d := 3) (by decide) (by simp)
  · intro a w hI
    have hI : SR _ _ _ _ a w := hI
    have e3 := hI.g 3 rfl
    have hw : w = W := hI.wp
    subst hw
    have z : ¬ (15 : Int) < y := by omega
    go_simp
    exact hI.put (d := 4) (by decide) (by simp)
  · intro a w hI
    have hI : SR _ _ _ _ a w := hI
    have hw : w = W := hI.wp
    subst hw
    exact hQ a hI
set_option maxRecDepth 100000 in
set_option maxHeartbeats 4000000 in
theorem li2 (n : Nat) {G G1 : World → Prop} (R : Nat) (cw : ∀ w, G w → (∃ v, w.cell? ⟨R, 0, none⟩ = some v) ∧ ∃ v, w.cell? ⟨R, 0 + 1, none⟩ = some v) (fw : ∀ w, G w → w.frozen? ⟨R, 0, none⟩ = false ∧ w.frozen? ⟨R, 0 + 1, none⟩ = false) (hst : ∀ w, G w → G1 ((w.setCell ⟨R, 0, none⟩ (.int .u8 15)).setCell ⟨R, 0 + 1, none⟩ (.int .u8 0))) (Q : Exit → Act → World → Prop) (a : Act) (w : World) (h0 : SG [(2, .pointer (some ⟨R, 0, none⟩))] 7 G a w)
    (hQ : ∀ a w, SG [(2, .pointer (some ⟨R, 0, none⟩))] 7 G1 a w → Q .normal a w) : (regOf 2 C34).wpIn Fence.wide n Try.prog Q a w := by
  simp only [regOf, C34, Try.f34, Option.getD, Nat.reduceBEq, Bool.false_eq_true, if_true, if_false]
  refine region_sq (fun k_ a w => match k_ with | 0 => SG [(2, .pointer (some ⟨R, 0, none⟩))] 7 G a w | 1 => SG [(2, .pointer (some ⟨R, 0, none⟩)), (5, .agg #[.int .u8 15, .int .u8 0])] 7 G a w | _ => SG [(2, .pointer (some ⟨R, 0, none⟩))] 7 G1 a w) (show SG _ _ G a w from h0) ⟨?_, ?_, trivial⟩ ?_
  · intro a w hI
    have hI : SG _ _ G a w := hI
    go_simp
    exact hI.put (d := 5) (by decide) (by simp) hI.wp
  · intro a w hI
    have hI : SG _ _ G a w := hI
    have e2 := hI.g 2 rfl
    have e5 := hI.g 5 rfl
    obtain ⟨⟨v0, cw0⟩, v1, cw1⟩ := cw w hI.wp
    obtain ⟨fw0, fw1⟩ := fw w hI.wp
    go_simp
    exact (hI.none (hst w hI.wp)).sub (by intro p hp; simp only [List.mem_cons, List.not_mem_nil, or_false] at hp ⊢; simp [hp])
  · intro a w hI
    have hI : SG _ _ G1 a w := hI
    exact hQ a w hI
set_option maxRecDepth 100000 in
set_option maxHeartbeats 4000000 in
theorem li3 (n : Nat) {G G1 : World → Prop} (R : Nat) (cw : ∀ w, G w → (∃ v, w.cell? ⟨R, 0, none⟩ = some v) ∧ ∃ v, w.cell? ⟨R, 0 + 1, none⟩ = some v) (fw : ∀ w, G w → w.frozen? ⟨R, 0, none⟩ = false ∧ w.frozen? ⟨R, 0 + 1, none⟩ = false) (hst : ∀ w, G w → G1 ((w.setCell ⟨R, 0, none⟩ (.int .u8 0)).setCell ⟨R, 0 + 1, none⟩ (.int .u8 0))) (Q : Exit → Act → World → Prop) (a : Act) (w : World) (h0 : SG [(2, .pointer (some ⟨R, 0, none⟩))] 7 G a w)
    (hQ : ∀ a w, SG [(2, .pointer (some ⟨R, 0, none⟩))] 7 G1 a w → Q .normal a w) : (regOf 3 C34).wpIn Fence.wide n Try.prog Q a w := by
  simp only [regOf, C34, Try.f34, Option.getD, Nat.reduceBEq, Bool.false_eq_true, if_true, if_false]
  refine region_sq (fun k_ a w => match k_ with | 0 => SG [(2, .pointer (some ⟨R, 0, none⟩))] 7 G a w | 1 => SG [(2, .pointer (some ⟨R, 0, none⟩)), (6, .agg #[.int .u8 0, .int .u8 0])] 7 G a w | _ => SG [(2, .pointer (some ⟨R, 0, none⟩))] 7 G1 a w) (show SG _ _ G a w from h0) ⟨?_, ?_, trivial⟩ ?_
  · intro a w hI
    have hI : SG _ _ G a w := hI
    go_simp
    exact hI.put (d := 6) (by decide) (by simp) hI.wp
  · intro a w hI
    have hI : SG _ _ G a w := hI
    have e2 := hI.g 2 rfl
    have e6 := hI.g 6 rfl
    obtain ⟨⟨v0, cw0⟩, v1, cw1⟩ := cw w hI.wp
    obtain ⟨fw0, fw1⟩ := fw w hI.wp
    go_simp
    exact (hI.none (hst w hI.wp)).sub (by intro p hp; simp only [List.mem_cons, List.not_mem_nil, or_false] at hp ⊢; simp [hp])
  · intro a w hI
    have hI : SG _ _ G1 a w := hI
    exact hQ a w hI
noncomputable def C21 : Code := Try.f21.body.getD .skip
set_option maxRecDepth 100000 in
set_option maxHeartbeats 4000000 in
theorem lcel0 (n : Nat) (W : World) (X Y Z : Int) (Q : Exit → Act → World → Prop) (a : Act) (h0 : SR [(0, .agg #[.int .i64 X, .int .i64 Y, .int .i64 Z])] 10 [] W a W)
    (hQ : ∀ a, SR [(1, .pointer (some ⟨W.heap.size, 0, none⟩)), (2, .pointer (some ⟨(W.alloc (.cells #[.int .i64 X, .int .i64 Y, .int .i64 Z] 48)).heap.size, 0, none⟩))] 10 [] ((W.alloc (.cells #[.int .i64 X, .int .i64 Y, .int .i64 Z] 48)).alloc (.cells #[.int .u8 0, .int .u8 0] 32)) a ((W.alloc (.cells #[.int .i64 X, .int .i64 Y, .int .i64 Z] 48)).alloc (.cells #[.int .u8 0, .int .u8 0] 32)) → Q .normal a ((W.alloc (.cells #[.int .i64 X, .int .i64 Y, .int .i64 Z] 48)).alloc (.cells #[.int .u8 0, .int .u8 0] 32))) : (regOf 0 C21).wpIn Fence.wide n Try.prog Q a W := by
  simp only [regOf, C21, Try.f21, Option.getD, Nat.reduceBEq, Bool.false_eq_true, if_true, if_false]
  refine region_sq (fun k_ a w => match k_ with | 0 => SR [(0, .agg #[.int .i64 X, .int .i64 Y, .int .i64 Z])] 10 [] (W) a w | 1 => SR [(1, .pointer (some ⟨W.heap.size, 0, none⟩))] 10 [] (W.alloc (.cells #[.int .i64 X, .int .i64 Y, .int .i64 Z] 48)) a w | _ => SR [(1, .pointer (some ⟨W.heap.size, 0, none⟩)), (2, .pointer (some ⟨(W.alloc (.cells #[.int .i64 X, .int .i64 Y, .int .i64 Z] 48)).heap.size, 0, none⟩))] 10 [] ((W.alloc (.cells #[.int .i64 X, .int .i64 Y, .int .i64 Z] 48)).alloc (.cells #[.int .u8 0, .int .u8 0] 32)) a w) (show SR _ _ _ _ a W from h0) ⟨?_, ?_, trivial⟩ ?_
  · intro a w hI
    have hI : SR _ _ _ _ a w := hI
    have e0 := hI.g 0 rfl
    have hw : w = W := hI.wp
    subst hw
    go_simp
    exact hI.put (d := 1) (by decide) (by simp)
  · intro a w hI
    have hI : SR _ _ _ _ a w := hI
    obtain rfl := hI.wp
    go_simp
    exact hI.put (d := 2) (by decide) (by simp)
  · intro a w hI
    have hI : SR _ _ _ _ a w := hI
    obtain rfl := hI.wp
    exact hQ a hI
set_option maxRecDepth 100000 in
set_option maxHeartbeats 4000000 in
theorem lcel1 (n : Nat) {G : World → Prop} (hS : Stable G) (S R : Nat) (X Y Z : Int) (s0 : ∀ w, G w → w.cell? ⟨S, 0, none⟩ = some (.int .i64 X)) (s1 : ∀ w, G w → w.cell? ⟨S, 1, none⟩ = some (.int .i64 Y)) (s2 : ∀ w, G w → w.cell? ⟨S, 2, none⟩ = some (.int .i64 Z)) (hm : ∀ m w, G w → CallsIn Fence.wide m Try.prog 32 #[.agg #[.int .i64 X, .int .i64 Y, .int .i64 Z]] w fun e w' => e = .returned (.bool true) ∧ Below w.heap.size w w') (Q : Exit → Act → World → Prop) (a : Act) (w : World) (h0 : SG [(1, .pointer (some ⟨S, 0, none⟩)), (2, .pointer (some ⟨R, 0, none⟩))] 10 G a w)
    (hQ : ∀ a w, SG [(1, .pointer (some ⟨S, 0, none⟩)), (2, .pointer (some ⟨R, 0, none⟩)), (5, .bool false)] 10 G a w → Q .normal a w) : (regOf 1 C21).wpIn Fence.wide n Try.prog Q a w := by
  simp only [regOf, C21, Try.f21, Option.getD, Nat.reduceBEq, Bool.false_eq_true, if_true, if_false]
  refine region_sq (fun k_ a w => match k_ with | 0 => SG [(1, .pointer (some ⟨S, 0, none⟩)), (2, .pointer (some ⟨R, 0, none⟩))] 10 G a w | 1 => SG [(1, .pointer (some ⟨S, 0, none⟩)), (2, .pointer (some ⟨R, 0, none⟩)), (3, .agg #[.int .i64 X, .int .i64 Y, .int .i64 Z])] 10 G a w | 2 => SG [(1, .pointer (some ⟨S, 0, none⟩)), (2, .pointer (some ⟨R, 0, none⟩)), (4, .bool true)] 10 G a w | _ => SG [(1, .pointer (some ⟨S, 0, none⟩)), (2, .pointer (some ⟨R, 0, none⟩)), (5, .bool false)] 10 G a w) (show SG _ _ G a w from h0) ⟨?_, ?_, ?_, trivial⟩ ?_
  · intro a w hI
    have hI : SG _ _ G a w := hI
    have e1 := hI.g 1 rfl
    have cc0 := s0 w hI.wp
    have cc1 := s1 w hI.wp
    have cc2 := s2 w hI.wp
    go_simp
    exact hI.put (d := 3) (by decide) (by simp) hI.wp
  · intro a w hI
    have hI : SG _ _ G a w := hI
    have e3 := hI.g 3 rfl
    go_simp
    refine ⟨trivial, fun h => (by cases h), (hm (n - 1) w hI.wp).mono ?_⟩
    rintro e w' ⟨rfl, hb2⟩
    exact hI.put (d := 4) (by decide) (by simp) (hS _ _ hI.wp hb2)
  · intro a w hI
    have hI : SG _ _ G a w := hI
    have e4 := hI.g 4 rfl
    go_simp
    exact hI.put (d := 5) (by decide) (by simp) hI.wp
  · intro a w hI
    have hI : SG _ _ G a w := hI
    exact hQ a w hI
set_option maxRecDepth 100000 in
set_option maxHeartbeats 4000000 in
theorem lcel3 (n : Nat) {G G1 : World → Prop} (hS : Stable G) (S R y k v : Nat) (s1 : ∀ w, G w → w.cell? ⟨S, 1, none⟩ = some (.int .i64 y)) (hc : ∀ m w, G w → CallsIn Fence.wide m Try.prog 33 #[.int .i64 y] w fun e w' => e = .returned (.agg #[.int .u8 k, .int .u8 v]) ∧ Below w.heap.size w w') (cw : ∀ w, G w → (∃ v, w.cell? ⟨R, 0, none⟩ = some v) ∧ ∃ v, w.cell? ⟨R, 0 + 1, none⟩ = some v) (fw : ∀ w, G w → w.frozen? ⟨R, 0, none⟩ = false ∧ w.frozen? ⟨R, 0 + 1, none⟩ = false) (hst : ∀ w, G w → G1 ((w.setCell ⟨R, 0, none⟩ (.int .u8 k)).setCell ⟨R, 0 + 1, none⟩ (.int .u8 v))) (Q : Exit → Act → World → Prop) (a : Act) (w : World) (h0 : SG [(1, .pointer (some ⟨S, 0, none⟩)), (2, .pointer (some ⟨R, 0, none⟩))] 10 G a w)
    (hQ : ∀ a w, SG [(2, .pointer (some ⟨R, 0, none⟩))] 10 G1 a w → Q .normal a w) : (regOf 3 C21).wpIn Fence.wide n Try.prog Q a w := by
  simp only [regOf, C21, Try.f21, Option.getD, Nat.reduceBEq, Bool.false_eq_true, if_true, if_false]
  refine region_sq (fun k_ a w => match k_ with | 0 => SG [(1, .pointer (some ⟨S, 0, none⟩)), (2, .pointer (some ⟨R, 0, none⟩))] 10 G a w | 1 => SG [(2, .pointer (some ⟨R, 0, none⟩)), (7, .pointer (some ⟨S, 1, none⟩))] 10 G a w | 2 => SG [(2, .pointer (some ⟨R, 0, none⟩)), (8, .int .i64 y)] 10 G a w | 3 => SG [(2, .pointer (some ⟨R, 0, none⟩)), (9, .agg #[.int .u8 k, .int .u8 v])] 10 G a w | _ => SG [(2, .pointer (some ⟨R, 0, none⟩))] 10 G1 a w) (show SG _ _ G a w from h0) ⟨?_, ?_, ?_, ?_, trivial⟩ ?_
  · intro a w hI
    have hI : SG _ _ G a w := hI
    have e1 := hI.g 1 rfl
    go_simp
    exact hI.put (d := 7) (by decide) (by simp) hI.wp
  · intro a w hI
    have hI : SG _ _ G a w := hI
    have e7 := hI.g 7 rfl
    have cc0 := s1 w hI.wp
    go_simp
    exact hI.put (d := 8) (by decide) (by simp) hI.wp
  · intro a w hI
    have hI : SG _ _ G a w := hI
    have e8 := hI.g 8 rfl
    go_simp
    refine ⟨trivial, fun h => (by cases h), (hc (n - 1) w hI.wp).mono ?_⟩
    rintro e w' ⟨rfl, hb2⟩
    exact hI.put (d := 9) (by decide) (by simp) (hS _ _ hI.wp hb2)
  · intro a w hI
    have hI : SG _ _ G a w := hI
    have e2 := hI.g 2 rfl
    have e9 := hI.g 9 rfl
    obtain ⟨⟨v0, cw0⟩, v1, cw1⟩ := cw w hI.wp
    obtain ⟨fw0, fw1⟩ := fw w hI.wp
    go_simp
    exact (hI.none (hst w hI.wp)).sub (by intro p hp; simp only [List.mem_cons, List.not_mem_nil, or_false] at hp ⊢; simp [hp])
  · intro a w hI
    have hI : SG _ _ G1 a w := hI
    exact hQ a w hI
noncomputable def C22 : Code := Try.f22.body.getD .skip
set_option maxRecDepth 100000 in
set_option maxHeartbeats 4000000 in
theorem llit0 (n : Nat) (W : World) (X Y Z : Int) (Q : Exit → Act → World → Prop) (a : Act) (h0 : SR [(0, .agg #[.int .i64 X, .int .i64 Y, .int .i64 Z])] 10 [] W a W)
    (hQ : ∀ a, SR [(1, .pointer (some ⟨W.heap.size, 0, none⟩)), (2, .pointer (some ⟨(W.alloc (.cells #[.int .i64 X, .int .i64 Y, .int .i64 Z] 48)).heap.size, 0, none⟩))] 10 [] ((W.alloc (.cells #[.int .i64 X, .int .i64 Y, .int .i64 Z] 48)).alloc (.cells #[.int .u8 0, .int .u8 0] 37)) a ((W.alloc (.cells #[.int .i64 X, .int .i64 Y, .int .i64 Z] 48)).alloc (.cells #[.int .u8 0, .int .u8 0] 37)) → Q .normal a ((W.alloc (.cells #[.int .i64 X, .int .i64 Y, .int .i64 Z] 48)).alloc (.cells #[.int .u8 0, .int .u8 0] 37))) : (regOf 0 C22).wpIn Fence.wide n Try.prog Q a W := by
  simp only [regOf, C22, Try.f22, Option.getD, Nat.reduceBEq, Bool.false_eq_true, if_true, if_false]
  refine region_sq (fun k_ a w => match k_ with | 0 => SR [(0, .agg #[.int .i64 X, .int .i64 Y, .int .i64 Z])] 10 [] (W) a w | 1 => SR [(1, .pointer (some ⟨W.heap.size, 0, none⟩))] 10 [] (W.alloc (.cells #[.int .i64 X, .int .i64 Y, .int .i64 Z] 48)) a w | _ => SR [(1, .pointer (some ⟨W.heap.size, 0, none⟩)), (2, .pointer (some ⟨(W.alloc (.cells #[.int .i64 X, .int .i64 Y, .int .i64 Z] 48)).heap.size, 0, none⟩))] 10 [] ((W.alloc (.cells #[.int .i64 X, .int .i64 Y, .int .i64 Z] 48)).alloc (.cells #[.int .u8 0, .int .u8 0] 37)) a w) (show SR _ _ _ _ a W from h0) ⟨?_, ?_, trivial⟩ ?_
  · intro a w hI
    have hI : SR _ _ _ _ a w := hI
    have e0 := hI.g 0 rfl
    have hw : w = W := hI.wp
    subst hw
    go_simp
    exact hI.put (d := 1) (by decide) (by simp)
  · intro a w hI
    have hI : SR _ _ _ _ a w := hI
    obtain rfl := hI.wp
    go_simp
    exact hI.put (d := 2) (by decide) (by simp)
  · intro a w hI
    have hI : SR _ _ _ _ a w := hI
    obtain rfl := hI.wp
    exact hQ a hI
set_option maxRecDepth 100000 in
set_option maxHeartbeats 4000000 in
theorem llit1 (n : Nat) {G : World → Prop} (hS : Stable G) (S R : Nat) (X Y Z : Int) (s0 : ∀ w, G w → w.cell? ⟨S, 0, none⟩ = some (.int .i64 X)) (s1 : ∀ w, G w → w.cell? ⟨S, 1, none⟩ = some (.int .i64 Y)) (s2 : ∀ w, G w → w.cell? ⟨S, 2, none⟩ = some (.int .i64 Z)) (hm : ∀ m w, G w → CallsIn Fence.wide m Try.prog 32 #[.agg #[.int .i64 X, .int .i64 Y, .int .i64 Z]] w fun e w' => e = .returned (.bool true) ∧ Below w.heap.size w w') (Q : Exit → Act → World → Prop) (a : Act) (w : World) (h0 : SG [(1, .pointer (some ⟨S, 0, none⟩)), (2, .pointer (some ⟨R, 0, none⟩))] 10 G a w)
    (hQ : ∀ a w, SG [(1, .pointer (some ⟨S, 0, none⟩)), (2, .pointer (some ⟨R, 0, none⟩)), (5, .bool false)] 10 G a w → Q .normal a w) : (regOf 1 C22).wpIn Fence.wide n Try.prog Q a w := by
  simp only [regOf, C22, Try.f22, Option.getD, Nat.reduceBEq, Bool.false_eq_true, if_true, if_false]
  refine region_sq (fun k_ a w => match k_ with | 0 => SG [(1, .pointer (some ⟨S, 0, none⟩)), (2, .pointer (some ⟨R, 0, none⟩))] 10 G a w | 1 => SG [(1, .pointer (some ⟨S, 0, none⟩)), (2, .pointer (some ⟨R, 0, none⟩)), (3, .agg #[.int .i64 X, .int .i64 Y, .int .i64 Z])] 10 G a w | 2 => SG [(1, .pointer (some ⟨S, 0, none⟩)), (2, .pointer (some ⟨R, 0, none⟩)), (4, .bool true)] 10 G a w | _ => SG [(1, .pointer (some ⟨S, 0, none⟩)), (2, .pointer (some ⟨R, 0, none⟩)), (5, .bool false)] 10 G a w) (show SG _ _ G a w from h0) ⟨?_, ?_, ?_, trivial⟩ ?_
  · intro a w hI
    have hI : SG _ _ G a w := hI
    have e1 := hI.g 1 rfl
    have cc0 := s0 w hI.wp
    have cc1 := s1 w hI.wp
    have cc2 := s2 w hI.wp
    go_simp
    exact hI.put (d := 3) (by decide) (by simp) hI.wp
  · intro a w hI
    have hI : SG _ _ G a w := hI
    have e3 := hI.g 3 rfl
    go_simp
    refine ⟨trivial, fun h => (by cases h), (hm (n - 1) w hI.wp).mono ?_⟩
    rintro e w' ⟨rfl, hb2⟩
    exact hI.put (d := 4) (by decide) (by simp) (hS _ _ hI.wp hb2)
  · intro a w hI
    have hI : SG _ _ G a w := hI
    have e4 := hI.g 4 rfl
    go_simp
    exact hI.put (d := 5) (by decide) (by simp) hI.wp
  · intro a w hI
    have hI : SG _ _ G a w := hI
    exact hQ a w hI
set_option maxRecDepth 100000 in
set_option maxHeartbeats 4000000 in
theorem llit3 (n : Nat) {G G1 : World → Prop} (hS : Stable G) (S R y k v : Nat) (s1 : ∀ w, G w → w.cell? ⟨S, 1, none⟩ = some (.int .i64 y)) (hc : ∀ m w, G w → CallsIn Fence.wide m Try.prog 34 #[.int .i64 y] w fun e w' => e = .returned (.agg #[.int .u8 k, .int .u8 v]) ∧ Below w.heap.size w w') (cw : ∀ w, G w → (∃ v, w.cell? ⟨R, 0, none⟩ = some v) ∧ ∃ v, w.cell? ⟨R, 0 + 1, none⟩ = some v) (fw : ∀ w, G w → w.frozen? ⟨R, 0, none⟩ = false ∧ w.frozen? ⟨R, 0 + 1, none⟩ = false) (hst : ∀ w, G w → G1 ((w.setCell ⟨R, 0, none⟩ (.int .u8 k)).setCell ⟨R, 0 + 1, none⟩ (.int .u8 v))) (Q : Exit → Act → World → Prop) (a : Act) (w : World) (h0 : SG [(1, .pointer (some ⟨S, 0, none⟩)), (2, .pointer (some ⟨R, 0, none⟩))] 10 G a w)
    (hQ : ∀ a w, SG [(2, .pointer (some ⟨R, 0, none⟩))] 10 G1 a w → Q .normal a w) : (regOf 3 C22).wpIn Fence.wide n Try.prog Q a w := by
  simp only [regOf, C22, Try.f22, Option.getD, Nat.reduceBEq, Bool.false_eq_true, if_true, if_false]
  refine region_sq (fun k_ a w => match k_ with | 0 => SG [(1, .pointer (some ⟨S, 0, none⟩)), (2, .pointer (some ⟨R, 0, none⟩))] 10 G a w | 1 => SG [(2, .pointer (some ⟨R, 0, none⟩)), (7, .pointer (some ⟨S, 1, none⟩))] 10 G a w | 2 => SG [(2, .pointer (some ⟨R, 0, none⟩)), (8, .int .i64 y)] 10 G a w | 3 => SG [(2, .pointer (some ⟨R, 0, none⟩)), (9, .agg #[.int .u8 k, .int .u8 v])] 10 G a w | _ => SG [(2, .pointer (some ⟨R, 0, none⟩))] 10 G1 a w) (show SG _ _ G a w from h0) ⟨?_, ?_, ?_, ?_, trivial⟩ ?_
  · intro a w hI
    have hI : SG _ _ G a w := hI
    have e1 := hI.g 1 rfl
    go_simp
    exact hI.put (d := 7) (by decide) (by simp) hI.wp
  · intro a w hI
    have hI : SG _ _ G a w := hI
    have e7 := hI.g 7 rfl
    have cc0 := s1 w hI.wp
    go_simp
    exact hI.put (d := 8) (by decide) (by simp) hI.wp
  · intro a w hI
    have hI : SG _ _ G a w := hI
    have e8 := hI.g 8 rfl
    go_simp
    refine ⟨trivial, fun h => (by cases h), (hc (n - 1) w hI.wp).mono ?_⟩
    rintro e w' ⟨rfl, hb2⟩
    exact hI.put (d := 9) (by decide) (by simp) (hS _ _ hI.wp hb2)
  · intro a w hI
    have hI : SG _ _ G a w := hI
    have e2 := hI.g 2 rfl
    have e9 := hI.g 9 rfl
    obtain ⟨⟨v0, cw0⟩, v1, cw1⟩ := cw w hI.wp
    obtain ⟨fw0, fw1⟩ := fw w hI.wp
    go_simp
    exact (hI.none (hst w hI.wp)).sub (by intro p hp; simp only [List.mem_cons, List.not_mem_nil, or_false] at hp ⊢; simp [hp])
  · intro a w hI
    have hI : SG _ _ G1 a w := hI
    exact hQ a w hI
/-! ### GlowLand: its parts -/
noncomputable def C11 : Code := Try.f11.body.getD .skip
theorem cell4_new (W : World) (t : TypeId) (a b c d : Value) : ((W.alloc (.cells #[a, b, c, d] t)).cell? ⟨W.heap.size, 0, none⟩ = some a ∧ (W.alloc (.cells #[a, b, c, d] t)).cell? ⟨W.heap.size, 1, none⟩ = some b ∧ (W.alloc (.cells #[a, b, c, d] t)).cell? ⟨W.heap.size, 2, none⟩ = some c ∧ (W.alloc (.cells #[a, b, c, d] t)).cell? ⟨W.heap.size, 3, none⟩ = some d) ∧
    (W.alloc (.cells #[a, b, c, d] t)).frozen? ⟨W.heap.size, 0, none⟩ = false ∧ (W.alloc (.cells #[a, b, c, d] t)).frozen? ⟨W.heap.size, 1, none⟩ = false ∧ (W.alloc (.cells #[a, b, c, d] t)).frozen? ⟨W.heap.size, 2, none⟩ = false ∧ (W.alloc (.cells #[a, b, c, d] t)).frozen? ⟨W.heap.size, 3, none⟩ = false := by
  have hn := World.alloc_heap_new W (.cells #[a, b, c, d] t)
  unfold World.cell? World.frozen?
  rw [hn]
  exact ⟨⟨rfl, rfl, rfl, rfl⟩, rfl, rfl, rfl, rfl⟩
theorem alloc_set4 (W : World) (t : TypeId) (a b c d a' b' c' d' : Value) : ((((W.alloc (.cells #[a, b, c, d] t)).setCell ⟨W.heap.size, 0, none⟩ a').setCell ⟨W.heap.size, 1, none⟩ b').setCell ⟨W.heap.size, 2, none⟩ c').setCell ⟨W.heap.size, 3, none⟩ d' = W.alloc (.cells #[a', b', c', d'] t) := by
  have e : (((((W.alloc (.cells #[a, b, c, d] t)).setCell ⟨W.heap.size, 0, none⟩ a').setCell ⟨W.heap.size, 1, none⟩ b').setCell ⟨W.heap.size, 2, none⟩ c').setCell ⟨W.heap.size, 3, none⟩ d').heap = (W.alloc (.cells #[a', b', c', d'] t)).heap := by
    simp only [World.setCell, World.alloc]
    apply Array.ext
    · simp only [Array.size_modify, Array.size_push]
    · intro i h1 h2
      simp only [Array.getElem_modify, Array.getElem_push]
      simp only [Array.size_push] at h2
      split
      · rw [dif_neg (by omega), dif_neg (by omega)]; rfl
      · rw [dif_pos (by omega), dif_pos (by omega)]
  simp only [World.setCell, World.alloc] at e ⊢
  rw [e]
set_option maxRecDepth 100000 in
set_option maxHeartbeats 4000000 in
theorem ld0 (n : Nat) (W : World) (X Y Z : Int) (u v : Nat) (Q : Exit → Act → World → Prop) (a : Act) (h0 : SR [(0, .agg #[.int .i64 X, .int .i64 Y, .int .i64 Z]), (1, .int .u8 u), (2, .int .u8 v)] 125 [] W a W)
    (hQ : ∀ a, SR [(1, .int .u8 u), (2, .int .u8 v), (3, .pointer (some ⟨W.heap.size, 0, none⟩))] 125 [] (W.alloc (.cells #[.int .i64 X, .int .i64 Y, .int .i64 Z] 48)) a (W.alloc (.cells #[.int .i64 X, .int .i64 Y, .int .i64 Z] 48)) → Q .normal a (W.alloc (.cells #[.int .i64 X, .int .i64 Y, .int .i64 Z] 48))) : (regOf 0 C11).wpIn Fence.wide n Try.prog Q a W := by
  simp only [regOf, C11, Try.f11, Option.getD, Nat.reduceBEq, Bool.false_eq_true, if_true, if_false]
  refine region_sq (fun k_ a w => match k_ with | 0 => SR [(0, .agg #[.int .i64 X, .int .i64 Y, .int .i64 Z]), (1, .int .u8 u), (2, .int .u8 v)] 125 [] (W) a w | 1 => SR [(1, .int .u8 u), (2, .int .u8 v), (3, .pointer (some ⟨W.heap.size, 0, none⟩))] 125 [] (W.alloc (.cells #[.int .i64 X, .int .i64 Y, .int .i64 Z] 48)) a w | _ => SR [(1, .int .u8 u), (2, .int .u8 v), (3, .pointer (some ⟨W.heap.size, 0, none⟩))] 125 [] (W.alloc (.cells #[.int .i64 X, .int .i64 Y, .int .i64 Z] 48)) a w) (show SR _ _ _ _ a W from h0) ⟨?_, ?_, trivial⟩ ?_
  · intro a w hI
    have hI : SR _ _ _ _ a w := hI
    have e0 := hI.g 0 rfl
    have hw : w = W := hI.wp
    subst hw
    go_simp
    exact hI.put (d := 3) (by decide) (by simp)
  · intro a w hI
    have hI : SR _ _ _ _ a w := hI
    obtain rfl := hI.wp
    go_simp
    exact hI.put (d := 6) (by decide) (by simp)
  · intro a w hI
    have hI : SR _ _ _ _ a w := hI
    obtain rfl := hI.wp
    exact hQ a hI
set_option maxRecDepth 100000 in
set_option maxHeartbeats 4000000 in
theorem ld1 (n : Nat) (W : World) (S u v x z X Z : Nat) (r1 : Int.tmod (u : Int) 4 = (x : Int)) (q1 : IntKind.i64.wrap (x : Int) = (x : Int)) (t1 : IntKind.i64.wrap (1 + (x : Int)) = (X : Int)) (r2 : Int.tmod (v : Int) 4 = (z : Int)) (q2 : IntKind.i64.wrap (z : Int) = (z : Int)) (t2 : IntKind.i64.wrap (1 + (z : Int)) = (Z : Int)) (Q : Exit → Act → World → Prop) (a : Act) (h0 : SR [(1, .int .u8 u), (2, .int .u8 v), (3, .pointer (some ⟨S, 0, none⟩))] 125 [] W a W)
    (hQ : ∀ a, SR [(3, .pointer (some ⟨S, 0, none⟩)), (7, .pointer (some ⟨W.heap.size, 0, none⟩))] 125 [] (W.alloc (.cells #[.int .i64 X, .int .i64 64, .int .i64 Z, .slice none 0 0] 24)) a (W.alloc (.cells #[.int .i64 X, .int .i64 64, .int .i64 Z, .slice none 0 0] 24)) → Q .normal a (W.alloc (.cells #[.int .i64 X, .int .i64 64, .int .i64 Z, .slice none 0 0] 24))) : (regOf 1 C11).wpIn Fence.wide n Try.prog Q a W := by
  simp only [regOf, C11, Try.f11, Option.getD, Nat.reduceBEq, Bool.false_eq_true, if_true, if_false]
  refine region_sq (fun k_ a w => match k_ with | 0 => SR [(1, .int .u8 u), (2, .int .u8 v), (3, .pointer (some ⟨S, 0, none⟩))] 125 [] (W) a w | 1 => SR [(2, .int .u8 v), (3, .pointer (some ⟨S, 0, none⟩)), (12, .int .u8 u)] 125 [] (W) a w | 2 => SR [(2, .int .u8 v), (3, .pointer (some ⟨S, 0, none⟩)), (13, .int .u8 x)] 125 [] (W) a w | 3 => SR [(2, .int .u8 v), (3, .pointer (some ⟨S, 0, none⟩)), (14, .int .i64 x)] 125 [] (W) a w | 4 => SR [(2, .int .u8 v), (3, .pointer (some ⟨S, 0, none⟩)), (15, .int .i64 X)] 125 [] (W) a w | 5 => SR [(3, .pointer (some ⟨S, 0, none⟩)), (15, .int .i64 X), (16, .int .u8 v)] 125 [] (W) a w | 6 => SR [(3, .pointer (some ⟨S, 0, none⟩)), (15, .int .i64 X), (17, .int .u8 z)] 125 [] (W) a w | 7 => SR [(3, .pointer (some ⟨S, 0, none⟩)), (15, .int .i64 X), (18, .int .i64 z)] 125 [] (W) a w | 8 => SR [(3, .pointer (some ⟨S, 0, none⟩)), (15, .int .i64 X), (19, .int .i64 Z)] 125 [] (W) a w | 9 => SR [(3, .pointer (some ⟨S, 0, none⟩)), (20, .agg #[.int .i64 X, .int .i64 64, .int .i64 Z, .slice none 0 0])] 125 [] (W) a w | 10 => SR [(3, .pointer (some ⟨S, 0, none⟩)), (20, .agg #[.int .i64 X, .int .i64 64, .int .i64 Z, .slice none 0 0]), (7, .pointer (some ⟨W.heap.size, 0, none⟩))] 125 [] (W.alloc (.cells #[.int .i64 0, .int .i64 0, .int .i64 0, .slice none 0 0] 24)) a w | _ => SR [(3, .pointer (some ⟨S, 0, none⟩)), (7, .pointer (some ⟨W.heap.size, 0, none⟩))] 125 [] (W.alloc (.cells #[.int .i64 X, .int .i64 64, .int .i64 Z, .slice none 0 0] 24)) a w) (show SR _ _ _ _ a W from h0) ⟨?_, ?_, ?_, ?_, ?_, ?_, ?_, ?_, ?_, ?_, ?_, trivial⟩ ?_
  · intro a w hI
    have hI : SR _ _ _ _ a w := hI
    have e1 := hI.g 1 rfl
    have hw : w = W := hI.wp
    subst hw
    go_simp
    exact hI.put (d := 12) (by decide) (by simp)
  · intro a w hI
    have hI : SR _ _ _ _ a w := hI
    have e12 := hI.g 12 rfl
    have hw : w = W := hI.wp
    subst hw
    go_simp
    exact hI.put (d := 13) (by decide) (by simp)
  · intro a w hI
    have hI : SR _ _ _ _ a w := hI
    have e13 := hI.g 13 rfl
    have hw : w = W := hI.wp
    subst hw
    go_simp
    exact hI.put (d := 14) (by decide) (by simp)
  · intro a w hI
    have hI : SR _ _ _ _ a w := hI
    have e14 := hI.g 14 rfl
    have hw : w = W := hI.wp
    subst hw
    go_simp
    exact hI.put (d := 15) (by decide) (by simp)
  · intro a w hI
    have hI : SR _ _ _ _ a w := hI
    have e2 := hI.g 2 rfl
    have hw : w = W := hI.wp
    subst hw
    go_simp
    exact hI.put (d := 16) (by decide) (by simp)
  · intro a w hI
    have hI : SR _ _ _ _ a w := hI
    have e16 := hI.g 16 rfl
    have hw : w = W := hI.wp
    subst hw
    go_simp
    exact hI.put (d := 17) (by decide) (by simp)
  · intro a w hI
    have hI : SR _ _ _ _ a w := hI
    have e17 := hI.g 17 rfl
    have hw : w = W := hI.wp
    subst hw
    go_simp
    exact hI.put (d := 18) (by decide) (by simp)
  · intro a w hI
    have hI : SR _ _ _ _ a w := hI
    have e18 := hI.g 18 rfl
    have hw : w = W := hI.wp
    subst hw
    go_simp
    exact hI.put (d := 19) (by decide) (by simp)
  · intro a w hI
    have hI : SR _ _ _ _ a w := hI
    have e15 := hI.g 15 rfl
    have e19 := hI.g 19 rfl
    have hw : w = W := hI.wp
    subst hw
    go_simp
    exact hI.put (d := 20) (by decide) (by simp)
  · intro a w hI
    have hI : SR _ _ _ _ a w := hI
    have hw : w = W := hI.wp
    subst hw
    go_simp
    exact hI.put (d := 7) (by decide) (by simp)
  · intro a w hI
    have hI : SR _ _ _ _ a w := hI
    have e7 := hI.g 7 rfl
    have e20 := hI.g 20 rfl
    obtain rfl := hI.wp
    obtain ⟨⟨hn0, hn1, hn2, hn3⟩, hn4, hn5, hn6, hn7⟩ := cell4_new W 24 (.int .i64 0) (.int .i64 0) (.int .i64 0) (.slice none 0 0)
    have hn8 := alloc_set4 W 24 (.int .i64 0) (.int .i64 0) (.int .i64 0) (.slice none 0 0) (.int .i64 X) (.int .i64 64) (.int .i64 Z) (.slice none 0 0)
    go_simp
    exact hI.none.sub (by intro p hp; simp only [List.mem_cons, List.not_mem_nil, or_false] at hp ⊢; rcases hp with h | h <;> simp [h])
  · intro a w hI
    have hI : SR _ _ _ _ a w := hI
    obtain rfl := hI.wp
    exact hQ a hI
set_option maxRecDepth 100000 in
set_option maxHeartbeats 4000000 in
theorem ld2 (n : Nat) {G : World → Prop} (S B X Z p N : Nat) (h1 : IntKind.i64.wrap ((X : Int) * 64) = (p : Int)) (h2 : IntKind.i64.wrap ((p : Int) * Z) = (N : Int)) (c0 : ∀ w, G w → w.cell? ⟨B, 0, none⟩ = some (.int .i64 X)) (c1 : ∀ w, G w → w.cell? ⟨B, 1, none⟩ = some (.int .i64 64)) (c2_ : ∀ w, G w → w.cell? ⟨B, 2, none⟩ = some (.int .i64 Z)) (hN2 : N ≤ 262144) (G1 : Nat → World → Prop) (hst : ∀ w, G w → G1 w.heap.size (w.alloc (.cells (madeCells #[.int .u8 0, .int .u8 0] (N * 2)) 32))) (G2 : Nat → World → Prop) (cw : ∀ g2 w, G1 g2 w → ∃ v, w.cell? ⟨B, 3, none⟩ = some v) (fw : ∀ g2 w, G1 g2 w → w.frozen? ⟨B, 3, none⟩ = false) (hst2 : ∀ g2 w, G1 g2 w → G2 g2 (w.setCell ⟨B, 3, none⟩ (.slice (some ⟨g2, 0, none⟩) N N))) (Q : Exit → Act → World → Prop) (a : Act) (w : World) (h0 : SG [(3, .pointer (some ⟨S, 0, none⟩)), (7, .pointer (some ⟨B, 0, none⟩))] 125 G a w)
    (hQ : ∀ g2 a w, SG [(3, .pointer (some ⟨S, 0, none⟩)), (7, .pointer (some ⟨B, 0, none⟩))] 125 (G2 g2) a w → Q .normal a w) : (regOf 2 C11).wpIn Fence.wide n Try.prog Q a w := by
  obtain ⟨i0, hi, hz0, hz1, hz2⟩ := info_parts info32
  simp only [regOf, C11, Try.f11, Option.getD, Nat.reduceBEq, Bool.false_eq_true, if_true, if_false]
  refine region_sq (fun k_ a w => match k_ with | 0 => SG [(3, .pointer (some ⟨S, 0, none⟩)), (7, .pointer (some ⟨B, 0, none⟩))] 125 G a w | 1 => SG [(3, .pointer (some ⟨S, 0, none⟩)), (7, .pointer (some ⟨B, 0, none⟩)), (21, .pointer (some ⟨B, 0, none⟩))] 125 G a w | 2 => SG [(3, .pointer (some ⟨S, 0, none⟩)), (7, .pointer (some ⟨B, 0, none⟩)), (22, .int .i64 X)] 125 G a w | 3 => SG [(3, .pointer (some ⟨S, 0, none⟩)), (7, .pointer (some ⟨B, 0, none⟩)), (22, .int .i64 X), (23, .pointer (some ⟨B, 1, none⟩))] 125 G a w | 4 => SG [(3, .pointer (some ⟨S, 0, none⟩)), (7, .pointer (some ⟨B, 0, none⟩)), (22, .int .i64 X), (24, .int .i64 64)] 125 G a w | 5 => SG [(3, .pointer (some ⟨S, 0, none⟩)), (7, .pointer (some ⟨B, 0, none⟩)), (25, .int .i64 p)] 125 G a w | 6 => SG [(3, .pointer (some ⟨S, 0, none⟩)), (7, .pointer (some ⟨B, 0, none⟩)), (25, .int .i64 p), (26, .pointer (some ⟨B, 2, none⟩))] 125 G a w | 7 => SG [(3, .pointer (some ⟨S, 0, none⟩)), (7, .pointer (some ⟨B, 0, none⟩)), (25, .int .i64 p), (27, .int .i64 Z)] 125 G a w | 8 => SG [(3, .pointer (some ⟨S, 0, none⟩)), (7, .pointer (some ⟨B, 0, none⟩)), (28, .int .i64 N)] 125 G a w | 9 => ∃ g2, SG [(3, .pointer (some ⟨S, 0, none⟩)), (7, .pointer (some ⟨B, 0, none⟩)), (29, .slice (some ⟨g2, 0, none⟩) N N)] 125 (G1 g2) a w | 10 => ∃ g2, SG [(3, .pointer (some ⟨S, 0, none⟩)), (7, .pointer (some ⟨B, 0, none⟩)), (29, .slice (some ⟨g2, 0, none⟩) N N), (30, .pointer (some ⟨B, 3, none⟩))] 125 (G1 g2) a w | _ => ∃ g2, SG [(3, .pointer (some ⟨S, 0, none⟩)), (7, .pointer (some ⟨B, 0, none⟩))] 125 (G2 g2) a w) (show SG _ _ G a w from h0) ⟨?_, ?_, ?_, ?_, ?_, ?_, ?_, ?_, ?_, ?_, ?_, trivial⟩ ?_
  · intro a w hI
    have hI : SG _ _ G a w := hI
    have e7 := hI.g 7 rfl
    go_simp
    exact hI.put (d := 21) (by decide) (by simp) hI.wp
  · intro a w hI
    have hI : SG _ _ G a w := hI
    have e21 := hI.g 21 rfl
    have cc0 := c0 w hI.wp
    go_simp
    exact hI.put (d := 22) (by decide) (by simp) hI.wp
  · intro a w hI
    have hI : SG _ _ G a w := hI
    have e7 := hI.g 7 rfl
    go_simp
    exact hI.put (d := 23) (by decide) (by simp) hI.wp
  · intro a w hI
    have hI : SG _ _ G a w := hI
    have e23 := hI.g 23 rfl
    have cc0 := c1 w hI.wp
    go_simp
    exact hI.put (d := 24) (by decide) (by simp) hI.wp
  · intro a w hI
    have hI : SG _ _ G a w := hI
    have e22 := hI.g 22 rfl
    have e24 := hI.g 24 rfl
    go_simp
    exact hI.put (d := 25) (by decide) (by simp) hI.wp
  · intro a w hI
    have hI : SG _ _ G a w := hI
    have e7 := hI.g 7 rfl
    go_simp
    exact hI.put (d := 26) (by decide) (by simp) hI.wp
  · intro a w hI
    have hI : SG _ _ G a w := hI
    have e26 := hI.g 26 rfl
    have cc0 := c2_ w hI.wp
    go_simp
    exact hI.put (d := 27) (by decide) (by simp) hI.wp
  · intro a w hI
    have hI : SG _ _ G a w := hI
    have e25 := hI.g 25 rfl
    have e27 := hI.g 27 rfl
    go_simp
    exact hI.put (d := 28) (by decide) (by simp) hI.wp
  · intro a w hI
    have hI : SG _ _ G a w := hI
    have e28 := hI.g 28 rfl
    have hmk := run_make (P := Try.prog) w 22 32 i0 (.agg #[.int .u8 0, .int .u8 0]) under22 hi hz0 .i64 .i64 N N (by omega) (Int.le_refl _) (by rw [hz2]; omega) (by omega)
    rw [Int.toNat_natCast, hz1] at hmk
    replace hmk : (Instr.makeSlice 22 (.int .i64 N) (.int .i64 N)).run Try.prog w = .ok (.slice (some ⟨w.heap.size, 0, none⟩) N N) (w.alloc (.cells (madeCells #[.int .u8 0, .int .u8 0] (N * 2)) 32)) := hmk
    go_simp
    exact ⟨w.heap.size, hI.put (d := 29) (by decide) (by simp) (hst w hI.wp)⟩
  · rintro a w ⟨g2, hI⟩
    have e7 := hI.g 7 rfl
    go_simp
    exact ⟨g2, hI.put (d := 30) (by decide) (by simp) hI.wp⟩
  · rintro a w ⟨g2, hI⟩
    have e30 := hI.g 30 rfl
    have e29 := hI.g 29 rfl
    obtain ⟨v0, cw0⟩ := cw _ w hI.wp
    have fw0 := fw _ w hI.wp
    go_simp
    exact ⟨g2, (hI.none (hst2 _ w hI.wp)).sub (by intro p hp; simp only [List.mem_cons, List.not_mem_nil, or_false] at hp ⊢; rcases hp with h | h <;> simp [h])⟩
  · rintro a w ⟨g2, hI⟩
    exact hQ g2 a w hI
set_option maxRecDepth 100000 in
set_option maxHeartbeats 4000000 in
theorem ld3 (n : Nat) (W : World) (S B : Nat) (Q : Exit → Act → World → Prop) (a : Act) (h0 : SR [(3, .pointer (some ⟨S, 0, none⟩)), (7, .pointer (some ⟨B, 0, none⟩))] 125 [] W a W)
    (hQ : ∀ a, SR [(3, .pointer (some ⟨S, 0, none⟩)), (7, .pointer (some ⟨B, 0, none⟩)), (8, .int .i64 0)] 125 [] (W) a (W) → Q .normal a (W)) : (regOf 3 C11).wpIn Fence.wide n Try.prog Q a W := by
  simp only [regOf, C11, Try.f11, Option.getD, Nat.reduceBEq, Bool.false_eq_true, if_true, if_false]
  refine region_sq (fun k_ a w => match k_ with | 0 => SR [(3, .pointer (some ⟨S, 0, none⟩)), (7, .pointer (some ⟨B, 0, none⟩))] 125 [] (W) a w | _ => SR [(3, .pointer (some ⟨S, 0, none⟩)), (7, .pointer (some ⟨B, 0, none⟩)), (8, .int .i64 0)] 125 [] (W) a w) (show SR _ _ _ _ a W from h0) ⟨?_, trivial⟩ ?_
  · intro a w hI
    have hI : SR _ _ _ _ a w := hI
    have hw : w = W := hI.wp
    subst hw
    go_simp
    exact hI.put (d := 8) (by decide) (by simp)
  · intro a w hI
    have hI : SR _ _ _ _ a w := hI
    have hw : w = W := hI.wp
    subst hw
    exact hQ a hI
set_option maxRecDepth 100000 in
set_option maxHeartbeats 4000000 in
theorem ld4 (n : Nat) (W : World) (S B g2 N i : Nat) (c3 : W.cell? ⟨B, 3, none⟩ = some (.slice (some ⟨g2, 0, none⟩) N N)) (Q : Exit → Act → World → Prop) (a : Act) (h0 : SR [(3, .pointer (some ⟨S, 0, none⟩)), (7, .pointer (some ⟨B, 0, none⟩)), (8, .int .i64 i)] 125 [] W a W)
    (hQ : ∀ a, SR [(3, .pointer (some ⟨S, 0, none⟩)), (7, .pointer (some ⟨B, 0, none⟩)), (8, .int .i64 i), (35, .bool (decide (i < N)))] 125 [] (W) a (W) → Q .normal a (W)) : (regOf 4 C11).wpIn Fence.wide n Try.prog Q a W := by
  simp only [regOf, C11, Try.f11, Option.getD, Nat.reduceBEq, Bool.false_eq_true, if_true, if_false]
  refine region_sq (fun k_ a w => match k_ with | 0 => SR [(3, .pointer (some ⟨S, 0, none⟩)), (7, .pointer (some ⟨B, 0, none⟩)), (8, .int .i64 i)] 125 [] (W) a w | 1 => SR [(3, .pointer (some ⟨S, 0, none⟩)), (7, .pointer (some ⟨B, 0, none⟩)), (8, .int .i64 i), (31, .int .i64 i)] 125 [] (W) a w | 2 => SR [(3, .pointer (some ⟨S, 0, none⟩)), (7, .pointer (some ⟨B, 0, none⟩)), (8, .int .i64 i), (31, .int .i64 i), (32, .pointer (some ⟨B, 3, none⟩))] 125 [] (W) a w | 3 => SR [(3, .pointer (some ⟨S, 0, none⟩)), (7, .pointer (some ⟨B, 0, none⟩)), (8, .int .i64 i), (31, .int .i64 i), (33, .slice (some ⟨g2, 0, none⟩) N N)] 125 [] (W) a w | 4 => SR [(3, .pointer (some ⟨S, 0, none⟩)), (7, .pointer (some ⟨B, 0, none⟩)), (8, .int .i64 i), (31, .int .i64 i), (34, .int .i64 N)] 125 [] (W) a w | _ => SR [(3, .pointer (some ⟨S, 0, none⟩)), (7, .pointer (some ⟨B, 0, none⟩)), (8, .int .i64 i), (35, .bool (decide (i < N)))] 125 [] (W) a w) (show SR _ _ _ _ a W from h0) ⟨?_, ?_, ?_, ?_, ?_, trivial⟩ ?_
  · intro a w hI
    have hI : SR _ _ _ _ a w := hI
    have e8 := hI.g 8 rfl
    have hw : w = W := hI.wp
    subst hw
    go_simp
    exact hI.put (d := 31) (by decide) (by simp)
  · intro a w hI
    have hI : SR _ _ _ _ a w := hI
    have e7 := hI.g 7 rfl
    have hw : w = W := hI.wp
    subst hw
    go_simp
    exact hI.put (d := 32) (by decide) (by simp)
  · intro a w hI
    have hI : SR _ _ _ _ a w := hI
    have e32 := hI.g 32 rfl
    have hw : w = W := hI.wp
    subst hw
    go_simp
    exact hI.put (d := 33) (by decide) (by simp)
  · intro a w hI
    have hI : SR _ _ _ _ a w := hI
    have e33 := hI.g 33 rfl
    have hw : w = W := hI.wp
    subst hw
    go_simp
    exact hI.put (d := 34) (by decide) (by simp)
  · intro a w hI
    have hI : SR _ _ _ _ a w := hI
    have e31 := hI.g 31 rfl
    have e34 := hI.g 34 rfl
    have hw : w = W := hI.wp
    subst hw
    go_simp
    exact hI.put (d := 35) (by decide) (by simp)
  · intro a w hI
    have hI : SR _ _ _ _ a w := hI
    have hw : w = W := hI.wp
    subst hw
    exact hQ a hI
set_option maxRecDepth 100000 in
set_option maxHeartbeats 4000000 in
theorem ld5 (n : Nat) (W : World) (S B i : Nat) (hi : i < 9000000000) (Q : Exit → Act → World → Prop) (a : Act) (h0 : SR [(3, .pointer (some ⟨S, 0, none⟩)), (7, .pointer (some ⟨B, 0, none⟩)), (8, .int .i64 i)] 125 [] W a W)
    (hQ : ∀ a, SR [(3, .pointer (some ⟨S, 0, none⟩)), (7, .pointer (some ⟨B, 0, none⟩)), (8, .int .i64 ((i : Int) + 1))] 125 [] (W) a (W) → Q .normal a (W)) : (regOf 5 C11).wpIn Fence.wide n Try.prog Q a W := by
  simp only [regOf, C11, Try.f11, Option.getD, Nat.reduceBEq, Bool.false_eq_true, if_true, if_false]
  refine region_sq (fun k_ a w => match k_ with | 0 => SR [(3, .pointer (some ⟨S, 0, none⟩)), (7, .pointer (some ⟨B, 0, none⟩)), (8, .int .i64 i)] 125 [] (W) a w | 1 => SR [(3, .pointer (some ⟨S, 0, none⟩)), (7, .pointer (some ⟨B, 0, none⟩)), (36, .int .i64 i)] 125 [] (W) a w | 2 => SR [(3, .pointer (some ⟨S, 0, none⟩)), (7, .pointer (some ⟨B, 0, none⟩)), (37, .int .i64 ((i : Int) + 1))] 125 [] (W) a w | _ => SR [(3, .pointer (some ⟨S, 0, none⟩)), (7, .pointer (some ⟨B, 0, none⟩)), (8, .int .i64 ((i : Int) + 1))] 125 [] (W) a w) (show SR _ _ _ _ a W from h0) ⟨?_, ?_, ?_, trivial⟩ ?_
  · intro a w hI
    have hI : SR _ _ _ _ a w := hI
    have e8 := hI.g 8 rfl
    have hw : w = W := hI.wp
    subst hw
    go_simp
    exact hI.put (d := 36) (by decide) (by simp)
  · intro a w hI
    have hI : SR _ _ _ _ a w := hI
    have e36 := hI.g 36 rfl
    have hw : w = W := hI.wp
    subst hw
    have hw1 : IntKind.i64.wrap ((i : Int) + 1) = (i : Int) + 1 := IntWalk.i64_in _ (by omega)
    go_simp
    exact hI.put (d := 37) (by decide) (by simp)
  · intro a w hI
    have hI : SR _ _ _ _ a w := hI
    have e37 := hI.g 37 rfl
    have hw : w = W := hI.wp
    subst hw
    go_simp
    exact hI.put (d := 8) (by decide) (by simp)
  · intro a w hI
    have hI : SR _ _ _ _ a w := hI
    have hw : w = W := hI.wp
    subst hw
    exact hQ a hI
set_option maxRecDepth 100000 in
set_option maxHeartbeats 4000000 in
theorem ld6 (n : Nat) {G G1 : World → Prop} (hS : Stable G) (S B g2 N i : Nat) (X Z x q z y : Nat) (px pz rx rz ax az : Int) (d1 : ¬ X = 0) (d2 : ¬ Z = 0) (hx : Int.tmod (i : Int) X = (x : Int)) (hq : IntKind.i64.wrap ((i : Int) / X) = (q : Int)) (hz : Int.tmod (q : Int) Z = (z : Int)) (hy : IntKind.i64.wrap ((q : Int) / Z) = (y : Int)) (hrx : Int.tmod px 1000 = rx) (hrz : Int.tmod pz 1000 = rz) (hax : IntKind.i64.wrap (rx + x) = ax) (haz : IntKind.i64.wrap (rz + z) = az) (k v : Nat) (hi : i < N) (c3 : ∀ w, G w → w.cell? ⟨B, 3, none⟩ = some (.slice (some ⟨g2, 0, none⟩) N N)) (s0 : ∀ w, G w → w.cell? ⟨S, 0, none⟩ = some (.int .i64 px)) (c0 : ∀ w, G w → w.cell? ⟨B, 0, none⟩ = some (.int .i64 X)) (c2_ : ∀ w, G w → w.cell? ⟨B, 2, none⟩ = some (.int .i64 Z)) (s2 : ∀ w, G w → w.cell? ⟨S, 2, none⟩ = some (.int .i64 pz)) (hc : ∀ m w, G w → CallsIn Fence.wide m Try.prog 21 #[.agg #[.int .i64 ax, .int .i64 y, .int .i64 az]] w fun e w' => e = .returned (.agg #[.int .u8 k, .int .u8 v]) ∧ Below w.heap.size w w') (cw : ∀ w, G w → (∃ v, w.cell? ⟨g2, i * 2, none⟩ = some v) ∧ ∃ v, w.cell? ⟨g2, i * 2 + 1, none⟩ = some v) (fw : ∀ w, G w → w.frozen? ⟨g2, i * 2, none⟩ = false ∧ w.frozen? ⟨g2, i * 2 + 1, none⟩ = false) (hst : ∀ w, G w → G1 ((w.setCell ⟨g2, i * 2, none⟩ (.int .u8 k)).setCell ⟨g2, i * 2 + 1, none⟩ (.int .u8 v))) (Q : Exit → Act → World → Prop) (a : Act) (w : World) (h0 : SG [(3, .pointer (some ⟨S, 0, none⟩)), (7, .pointer (some ⟨B, 0, none⟩)), (8, .int .i64 i)] 125 G a w)
    (hQ : ∀ a w, SG [(3, .pointer (some ⟨S, 0, none⟩)), (7, .pointer (some ⟨B, 0, none⟩)), (8, .int .i64 i)] 125 G1 a w → Q .normal a w) : (regOf 6 C11).wpIn Fence.wide n Try.prog Q a w := by
  have hmix : Try.prog.follows .mixedOrders = true := by kernel_rfl
  simp only [regOf, C11, Try.f11, Option.getD, Nat.reduceBEq, Bool.false_eq_true, if_true, if_false]
  refine region_inv (RI [(3, .pointer (some ⟨S, 0, none⟩)), (7, .pointer (some ⟨B, 0, none⟩)), (8, .int .i64 i)]
    [(0, 38, .pointer (some ⟨B, 3, none⟩)), (1, 39, .slice (some ⟨g2, 0, none⟩) N N), (2, 40, .int .i64 i), (3, 41, .pointer (some ⟨S, 0, none⟩)), (4, 42, .int .i64 px), (5, 43, .int .i64 rx), (6, 44, .int .i64 i), (7, 45, .pointer (some ⟨B, 0, none⟩)), (8, 46, .int .i64 X), (9, 47, .int .i64 x), (10, 48, .int .i64 ax), (11, 49, .int .i64 i), (12, 50, .pointer (some ⟨B, 0, none⟩)), (13, 51, .int .i64 X), (14, 52, .int .i64 q), (15, 53, .pointer (some ⟨B, 2, none⟩)), (16, 54, .int .i64 Z), (17, 55, .int .i64 y), (18, 56, .pointer (some ⟨S, 2, none⟩)), (19, 57, .int .i64 pz), (20, 58, .int .i64 rz), (21, 59, .int .i64 i), (22, 60, .pointer (some ⟨B, 0, none⟩)), (23, 61, .int .i64 X), (24, 62, .int .i64 q), (25, 63, .pointer (some ⟨B, 2, none⟩)), (26, 64, .int .i64 Z), (27, 65, .int .i64 z), (28, 66, .int .i64 az), (29, 67, .agg #[.int .i64 ax, .int .i64 y, .int .i64 az]), (30, 68, .agg #[.int .u8 k, .int .u8 v]), (31, 69, .pointer (some ⟨g2, i * 2, none⟩))] 125 [] (fun Xs w => (Xs 32 = false → G w) ∧ (Xs 32 = true → G1 w))) hmix (by kernel_rfl) ⟨h0.size, h0.defers, h0.kn, by simp, fun _ => hS _ _ h0.wp (Below.refl _ _).drew, fun h => by cases h⟩ ⟨?_, ?_, ?_, ?_, ?_, ?_, ?_, ?_, ?_, ?_, ?_, ?_, ?_, ?_, ?_, ?_, ?_, ?_, ?_, ?_, ?_, ?_, ?_, ?_, ?_, ?_, ?_, ?_, ?_, ?_, ?_, ?_, ?_, trivial⟩ ?_
  · intro Xs a w hX hdep hC hI
    have e7 := hI.gi 7 rfl
    have ns : Xs 32 = false := by
        cases y32 : Xs 32 with
        | false => rfl
        | true =>
          have y0 := hC 32 _ rfl y32 ⟨0, .phase⟩ (by simp) rfl
          rw [hX] at y0; cases y0
    have hg := hI.wp.1 ns
    have hw2 : ∀ {d w}, G w → d ≠ 32 → (addX Xs d 32 = false → G w) ∧ (addX Xs d 32 = true → G1 w) := fun hg hd => ⟨fun _ => hg, fun h => by simp [addX, ns, hd.symm] at h⟩
    clear ns
    go_simp
    exact hI.put' (k := 0) (d := 38) (by decide) (by simp) (by simp) (by simp) (hw2 hg (by decide))
  · intro Xs a w hX hdep hC hI
    have x0 : Xs 0 = true := hdep ⟨0, .data⟩ (by simp) rfl
    have e38 := hI.gk 0 rfl x0
    have ns : Xs 32 = false := by
        cases y32 : Xs 32 with
        | false => rfl
        | true =>
          have y1 := hC 32 _ rfl y32 ⟨1, .phase⟩ (by simp) rfl
          rw [hX] at y1; cases y1
    have hg := hI.wp.1 ns
    have cc0 := c3 w hg
    have hw2 : ∀ {d w}, G w → d ≠ 32 → (addX Xs d 32 = false → G w) ∧ (addX Xs d 32 = true → G1 w) := fun hg hd => ⟨fun _ => hg, fun h => by simp [addX, ns, hd.symm] at h⟩
    clear ns
    go_simp
    exact hI.put' (k := 1) (d := 39) (by decide) (by simp) (by simp) (by simp) (hw2 hg (by decide))
  · intro Xs a w hX hdep hC hI
    have e8 := hI.gi 8 rfl
    have ns : Xs 32 = false := by
        cases y32 : Xs 32 with
        | false => rfl
        | true =>
          have y2 := hC 32 _ rfl y32 ⟨2, .phase⟩ (by simp) rfl
          rw [hX] at y2; cases y2
    have hg := hI.wp.1 ns
    have hw2 : ∀ {d w}, G w → d ≠ 32 → (addX Xs d 32 = false → G w) ∧ (addX Xs d 32 = true → G1 w) := fun hg hd => ⟨fun _ => hg, fun h => by simp [addX, ns, hd.symm] at h⟩
    clear ns
    go_simp
    exact hI.put' (k := 2) (d := 40) (by decide) (by simp) (by simp) (by simp) (hw2 hg (by decide))
  · intro Xs a w hX hdep hC hI
    have e3 := hI.gi 3 rfl
    have ns : Xs 32 = false := by
        cases y32 : Xs 32 with
        | false => rfl
        | true =>
          have y3 := hC 32 _ rfl y32 ⟨3, .phase⟩ (by simp) rfl
          rw [hX] at y3; cases y3
    have hg := hI.wp.1 ns
    have hw2 : ∀ {d w}, G w → d ≠ 32 → (addX Xs d 32 = false → G w) ∧ (addX Xs d 32 = true → G1 w) := fun hg hd => ⟨fun _ => hg, fun h => by simp [addX, ns, hd.symm] at h⟩
    clear ns
    go_simp
    exact hI.put' (k := 3) (d := 41) (by decide) (by simp) (by simp) (by simp) (hw2 hg (by decide))
  · intro Xs a w hX hdep hC hI
    have x3 : Xs 3 = true := hdep ⟨3, .data⟩ (by simp) rfl
    have e41 := hI.gk 3 rfl x3
    have ns : Xs 32 = false := by
        cases y32 : Xs 32 with
        | false => rfl
        | true =>
          have y4 := hC 32 _ rfl y32 ⟨4, .phase⟩ (by simp) rfl
          rw [hX] at y4; cases y4
    have hg := hI.wp.1 ns
    have cc0 := s0 w hg
    have hw2 : ∀ {d w}, G w → d ≠ 32 → (addX Xs d 32 = false → G w) ∧ (addX Xs d 32 = true → G1 w) := fun hg hd => ⟨fun _ => hg, fun h => by simp [addX, ns, hd.symm] at h⟩
    clear ns
    go_simp
    exact hI.put' (k := 4) (d := 42) (by decide) (by simp) (by simp) (by simp) (hw2 hg (by decide))
  · intro Xs a w hX hdep hC hI
    have x4 : Xs 4 = true := hdep ⟨4, .data⟩ (by simp) rfl
    have e42 := hI.gk 4 rfl x4
    have ns : Xs 32 = false := by
        cases y32 : Xs 32 with
        | false => rfl
        | true =>
          have y5 := hC 32 _ rfl y32 ⟨5, .phase⟩ (by simp) rfl
          rw [hX] at y5; cases y5
    have hg := hI.wp.1 ns
    have hw2 : ∀ {d w}, G w → d ≠ 32 → (addX Xs d 32 = false → G w) ∧ (addX Xs d 32 = true → G1 w) := fun hg hd => ⟨fun _ => hg, fun h => by simp [addX, ns, hd.symm] at h⟩
    clear ns
    go_simp
    exact hI.put' (k := 5) (d := 43) (by decide) (by simp) (by simp) (by simp) (hw2 hg (by decide))
  · intro Xs a w hX hdep hC hI
    have e8 := hI.gi 8 rfl
    have ns : Xs 32 = false := by
        cases y32 : Xs 32 with
        | false => rfl
        | true =>
          have y6 := hC 32 _ rfl y32 ⟨6, .phase⟩ (by simp) rfl
          rw [hX] at y6; cases y6
    have hg := hI.wp.1 ns
    have hw2 : ∀ {d w}, G w → d ≠ 32 → (addX Xs d 32 = false → G w) ∧ (addX Xs d 32 = true → G1 w) := fun hg hd => ⟨fun _ => hg, fun h => by simp [addX, ns, hd.symm] at h⟩
    clear ns
    go_simp
    exact hI.put' (k := 6) (d := 44) (by decide) (by simp) (by simp) (by simp) (hw2 hg (by decide))
  · intro Xs a w hX hdep hC hI
    have e7 := hI.gi 7 rfl
    have ns : Xs 32 = false := by
        cases y32 : Xs 32 with
        | false => rfl
        | true =>
          have y7 := hC 32 _ rfl y32 ⟨7, .phase⟩ (by simp) rfl
          rw [hX] at y7; cases y7
    have hg := hI.wp.1 ns
    have hw2 : ∀ {d w}, G w → d ≠ 32 → (addX Xs d 32 = false → G w) ∧ (addX Xs d 32 = true → G1 w) := fun hg hd => ⟨fun _ => hg, fun h => by simp [addX, ns, hd.symm] at h⟩
    clear ns
    go_simp
    exact hI.put' (k := 7) (d := 45) (by decide) (by simp) (by simp) (by simp) (hw2 hg (by decide))
  · intro Xs a w hX hdep hC hI
    have x7 : Xs 7 = true := hdep ⟨7, .data⟩ (by simp) rfl
    have e45 := hI.gk 7 rfl x7
    have ns : Xs 32 = false := by
        cases y32 : Xs 32 with
        | false => rfl
        | true =>
          have y8 := hC 32 _ rfl y32 ⟨8, .phase⟩ (by simp) rfl
          rw [hX] at y8; cases y8
    have hg := hI.wp.1 ns
    have cc0 := c0 w hg
    have hw2 : ∀ {d w}, G w → d ≠ 32 → (addX Xs d 32 = false → G w) ∧ (addX Xs d 32 = true → G1 w) := fun hg hd => ⟨fun _ => hg, fun h => by simp [addX, ns, hd.symm] at h⟩
    clear ns
    go_simp
    exact hI.put' (k := 8) (d := 46) (by decide) (by simp) (by simp) (by simp) (hw2 hg (by decide))
  · intro Xs a w hX hdep hC hI
    have x6 : Xs 6 = true := hdep ⟨6, .data⟩ (by simp) rfl
    have e44 := hI.gk 6 rfl x6
    have x8 : Xs 8 = true := hdep ⟨8, .data⟩ (by simp) rfl
    have e46 := hI.gk 8 rfl x8
    have ns : Xs 32 = false := by
        cases y32 : Xs 32 with
        | false => rfl
        | true =>
          have y9 := hC 32 _ rfl y32 ⟨9, .phase⟩ (by simp) rfl
          rw [hX] at y9; cases y9
    have hg := hI.wp.1 ns
    have hw2 : ∀ {d w}, G w → d ≠ 32 → (addX Xs d 32 = false → G w) ∧ (addX Xs d 32 = true → G1 w) := fun hg hd => ⟨fun _ => hg, fun h => by simp [addX, ns, hd.symm] at h⟩
    clear ns
    go_simp
    exact hI.put' (k := 9) (d := 47) (by decide) (by simp) (by simp) (by simp) (hw2 hg (by decide))
  · intro Xs a w hX hdep hC hI
    have x5 : Xs 5 = true := hdep ⟨5, .data⟩ (by simp) rfl
    have e43 := hI.gk 5 rfl x5
    have x9 : Xs 9 = true := hdep ⟨9, .data⟩ (by simp) rfl
    have e47 := hI.gk 9 rfl x9
    have ns : Xs 32 = false := by
        cases y32 : Xs 32 with
        | false => rfl
        | true =>
          have y10 := hC 32 _ rfl y32 ⟨10, .phase⟩ (by simp) rfl
          rw [hX] at y10; cases y10
    have hg := hI.wp.1 ns
    have hw2 : ∀ {d w}, G w → d ≠ 32 → (addX Xs d 32 = false → G w) ∧ (addX Xs d 32 = true → G1 w) := fun hg hd => ⟨fun _ => hg, fun h => by simp [addX, ns, hd.symm] at h⟩
    clear ns
    go_simp
    exact hI.put' (k := 10) (d := 48) (by decide) (by simp) (by simp) (by simp) (hw2 hg (by decide))
  · intro Xs a w hX hdep hC hI
    have e8 := hI.gi 8 rfl
    have ns : Xs 32 = false := by
        cases y32 : Xs 32 with
        | false => rfl
        | true =>
          have y11 := hC 32 _ rfl y32 ⟨11, .phase⟩ (by simp) rfl
          rw [hX] at y11; cases y11
    have hg := hI.wp.1 ns
    have hw2 : ∀ {d w}, G w → d ≠ 32 → (addX Xs d 32 = false → G w) ∧ (addX Xs d 32 = true → G1 w) := fun hg hd => ⟨fun _ => hg, fun h => by simp [addX, ns, hd.symm] at h⟩
    clear ns
    go_simp
    exact hI.put' (k := 11) (d := 49) (by decide) (by simp) (by simp) (by simp) (hw2 hg (by decide))
  · intro Xs a w hX hdep hC hI
    have e7 := hI.gi 7 rfl
    have ns : Xs 32 = false := by
        cases y32 : Xs 32 with
        | false => rfl
        | true =>
          have y12 := hC 32 _ rfl y32 ⟨12, .phase⟩ (by simp) rfl
          rw [hX] at y12; cases y12
    have hg := hI.wp.1 ns
    have hw2 : ∀ {d w}, G w → d ≠ 32 → (addX Xs d 32 = false → G w) ∧ (addX Xs d 32 = true → G1 w) := fun hg hd => ⟨fun _ => hg, fun h => by simp [addX, ns, hd.symm] at h⟩
    clear ns
    go_simp
    exact hI.put' (k := 12) (d := 50) (by decide) (by simp) (by simp) (by simp) (hw2 hg (by decide))
  · intro Xs a w hX hdep hC hI
    have x12 : Xs 12 = true := hdep ⟨12, .data⟩ (by simp) rfl
    have e50 := hI.gk 12 rfl x12
    have ns : Xs 32 = false := by
        cases y32 : Xs 32 with
        | false => rfl
        | true =>
          have y13 := hC 32 _ rfl y32 ⟨13, .phase⟩ (by simp) rfl
          rw [hX] at y13; cases y13
    have hg := hI.wp.1 ns
    have cc0 := c0 w hg
    have hw2 : ∀ {d w}, G w → d ≠ 32 → (addX Xs d 32 = false → G w) ∧ (addX Xs d 32 = true → G1 w) := fun hg hd => ⟨fun _ => hg, fun h => by simp [addX, ns, hd.symm] at h⟩
    clear ns
    go_simp
    exact hI.put' (k := 13) (d := 51) (by decide) (by simp) (by simp) (by simp) (hw2 hg (by decide))
  · intro Xs a w hX hdep hC hI
    have x11 : Xs 11 = true := hdep ⟨11, .data⟩ (by simp) rfl
    have e49 := hI.gk 11 rfl x11
    have x13 : Xs 13 = true := hdep ⟨13, .data⟩ (by simp) rfl
    have e51 := hI.gk 13 rfl x13
    have ns : Xs 32 = false := by
        cases y32 : Xs 32 with
        | false => rfl
        | true =>
          have y14 := hC 32 _ rfl y32 ⟨14, .phase⟩ (by simp) rfl
          rw [hX] at y14; cases y14
    have hg := hI.wp.1 ns
    have hw2 : ∀ {d w}, G w → d ≠ 32 → (addX Xs d 32 = false → G w) ∧ (addX Xs d 32 = true → G1 w) := fun hg hd => ⟨fun _ => hg, fun h => by simp [addX, ns, hd.symm] at h⟩
    clear ns
    go_simp
    exact hI.put' (k := 14) (d := 52) (by decide) (by simp) (by simp) (by simp) (hw2 hg (by decide))
  · intro Xs a w hX hdep hC hI
    have e7 := hI.gi 7 rfl
    have ns : Xs 32 = false := by
        cases y32 : Xs 32 with
        | false => rfl
        | true =>
          have y15 := hC 32 _ rfl y32 ⟨15, .phase⟩ (by simp) rfl
          rw [hX] at y15; cases y15
    have hg := hI.wp.1 ns
    have hw2 : ∀ {d w}, G w → d ≠ 32 → (addX Xs d 32 = false → G w) ∧ (addX Xs d 32 = true → G1 w) := fun hg hd => ⟨fun _ => hg, fun h => by simp [addX, ns, hd.symm] at h⟩
    clear ns
    go_simp
    exact hI.put' (k := 15) (d := 53) (by decide) (by simp) (by simp) (by simp) (hw2 hg (by decide))
  · intro Xs a w hX hdep hC hI
    have x15 : Xs 15 = true := hdep ⟨15, .data⟩ (by simp) rfl
    have e53 := hI.gk 15 rfl x15
    have ns : Xs 32 = false := by
        cases y32 : Xs 32 with
        | false => rfl
        | true =>
          have y16 := hC 32 _ rfl y32 ⟨16, .phase⟩ (by simp) rfl
          rw [hX] at y16; cases y16
    have hg := hI.wp.1 ns
    have cc0 := c2_ w hg
    have hw2 : ∀ {d w}, G w → d ≠ 32 → (addX Xs d 32 = false → G w) ∧ (addX Xs d 32 = true → G1 w) := fun hg hd => ⟨fun _ => hg, fun h => by simp [addX, ns, hd.symm] at h⟩
    clear ns
    go_simp
    exact hI.put' (k := 16) (d := 54) (by decide) (by simp) (by simp) (by simp) (hw2 hg (by decide))
  · intro Xs a w hX hdep hC hI
    have x14 : Xs 14 = true := hdep ⟨14, .data⟩ (by simp) rfl
    have e52 := hI.gk 14 rfl x14
    have x16 : Xs 16 = true := hdep ⟨16, .data⟩ (by simp) rfl
    have e54 := hI.gk 16 rfl x16
    have ns : Xs 32 = false := by
        cases y32 : Xs 32 with
        | false => rfl
        | true =>
          have y17 := hC 32 _ rfl y32 ⟨17, .phase⟩ (by simp) rfl
          rw [hX] at y17; cases y17
    have hg := hI.wp.1 ns
    have hw2 : ∀ {d w}, G w → d ≠ 32 → (addX Xs d 32 = false → G w) ∧ (addX Xs d 32 = true → G1 w) := fun hg hd => ⟨fun _ => hg, fun h => by simp [addX, ns, hd.symm] at h⟩
    clear ns
    go_simp
    exact hI.put' (k := 17) (d := 55) (by decide) (by simp) (by simp) (by simp) (hw2 hg (by decide))
  · intro Xs a w hX hdep hC hI
    have e3 := hI.gi 3 rfl
    have ns : Xs 32 = false := by
        cases y32 : Xs 32 with
        | false => rfl
        | true =>
          have y18 := hC 32 _ rfl y32 ⟨18, .phase⟩ (by simp) rfl
          rw [hX] at y18; cases y18
    have hg := hI.wp.1 ns
    have hw2 : ∀ {d w}, G w → d ≠ 32 → (addX Xs d 32 = false → G w) ∧ (addX Xs d 32 = true → G1 w) := fun hg hd => ⟨fun _ => hg, fun h => by simp [addX, ns, hd.symm] at h⟩
    clear ns
    go_simp
    exact hI.put' (k := 18) (d := 56) (by decide) (by simp) (by simp) (by simp) (hw2 hg (by decide))
  · intro Xs a w hX hdep hC hI
    have x18 : Xs 18 = true := hdep ⟨18, .data⟩ (by simp) rfl
    have e56 := hI.gk 18 rfl x18
    have ns : Xs 32 = false := by
        cases y32 : Xs 32 with
        | false => rfl
        | true =>
          have y19 := hC 32 _ rfl y32 ⟨19, .phase⟩ (by simp) rfl
          rw [hX] at y19; cases y19
    have hg := hI.wp.1 ns
    have cc0 := s2 w hg
    have hw2 : ∀ {d w}, G w → d ≠ 32 → (addX Xs d 32 = false → G w) ∧ (addX Xs d 32 = true → G1 w) := fun hg hd => ⟨fun _ => hg, fun h => by simp [addX, ns, hd.symm] at h⟩
    clear ns
    go_simp
    exact hI.put' (k := 19) (d := 57) (by decide) (by simp) (by simp) (by simp) (hw2 hg (by decide))
  · intro Xs a w hX hdep hC hI
    have x19 : Xs 19 = true := hdep ⟨19, .data⟩ (by simp) rfl
    have e57 := hI.gk 19 rfl x19
    have ns : Xs 32 = false := by
        cases y32 : Xs 32 with
        | false => rfl
        | true =>
          have y20 := hC 32 _ rfl y32 ⟨20, .phase⟩ (by simp) rfl
          rw [hX] at y20; cases y20
    have hg := hI.wp.1 ns
    have hw2 : ∀ {d w}, G w → d ≠ 32 → (addX Xs d 32 = false → G w) ∧ (addX Xs d 32 = true → G1 w) := fun hg hd => ⟨fun _ => hg, fun h => by simp [addX, ns, hd.symm] at h⟩
    clear ns
    go_simp
    exact hI.put' (k := 20) (d := 58) (by decide) (by simp) (by simp) (by simp) (hw2 hg (by decide))
  · intro Xs a w hX hdep hC hI
    have e8 := hI.gi 8 rfl
    have ns : Xs 32 = false := by
        cases y32 : Xs 32 with
        | false => rfl
        | true =>
          have y21 := hC 32 _ rfl y32 ⟨21, .phase⟩ (by simp) rfl
          rw [hX] at y21; cases y21
    have hg := hI.wp.1 ns
    have hw2 : ∀ {d w}, G w → d ≠ 32 → (addX Xs d 32 = false → G w) ∧ (addX Xs d 32 = true → G1 w) := fun hg hd => ⟨fun _ => hg, fun h => by simp [addX, ns, hd.symm] at h⟩
    clear ns
    go_simp
    exact hI.put' (k := 21) (d := 59) (by decide) (by simp) (by simp) (by simp) (hw2 hg (by decide))
  · intro Xs a w hX hdep hC hI
    have e7 := hI.gi 7 rfl
    have ns : Xs 32 = false := by
        cases y32 : Xs 32 with
        | false => rfl
        | true =>
          have y22 := hC 32 _ rfl y32 ⟨22, .phase⟩ (by simp) rfl
          rw [hX] at y22; cases y22
    have hg := hI.wp.1 ns
    have hw2 : ∀ {d w}, G w → d ≠ 32 → (addX Xs d 32 = false → G w) ∧ (addX Xs d 32 = true → G1 w) := fun hg hd => ⟨fun _ => hg, fun h => by simp [addX, ns, hd.symm] at h⟩
    clear ns
    go_simp
    exact hI.put' (k := 22) (d := 60) (by decide) (by simp) (by simp) (by simp) (hw2 hg (by decide))
  · intro Xs a w hX hdep hC hI
    have x22 : Xs 22 = true := hdep ⟨22, .data⟩ (by simp) rfl
    have e60 := hI.gk 22 rfl x22
    have ns : Xs 32 = false := by
        cases y32 : Xs 32 with
        | false => rfl
        | true =>
          have y23 := hC 32 _ rfl y32 ⟨23, .phase⟩ (by simp) rfl
          rw [hX] at y23; cases y23
    have hg := hI.wp.1 ns
    have cc0 := c0 w hg
    have hw2 : ∀ {d w}, G w → d ≠ 32 → (addX Xs d 32 = false → G w) ∧ (addX Xs d 32 = true → G1 w) := fun hg hd => ⟨fun _ => hg, fun h => by simp [addX, ns, hd.symm] at h⟩
    clear ns
    go_simp
    exact hI.put' (k := 23) (d := 61) (by decide) (by simp) (by simp) (by simp) (hw2 hg (by decide))
  · intro Xs a w hX hdep hC hI
    have x21 : Xs 21 = true := hdep ⟨21, .data⟩ (by simp) rfl
    have e59 := hI.gk 21 rfl x21
    have x23 : Xs 23 = true := hdep ⟨23, .data⟩ (by simp) rfl
    have e61 := hI.gk 23 rfl x23
    have ns : Xs 32 = false := by
        cases y32 : Xs 32 with
        | false => rfl
        | true =>
          have y24 := hC 32 _ rfl y32 ⟨24, .phase⟩ (by simp) rfl
          rw [hX] at y24; cases y24
    have hg := hI.wp.1 ns
    have hw2 : ∀ {d w}, G w → d ≠ 32 → (addX Xs d 32 = false → G w) ∧ (addX Xs d 32 = true → G1 w) := fun hg hd => ⟨fun _ => hg, fun h => by simp [addX, ns, hd.symm] at h⟩
    clear ns
    go_simp
    exact hI.put' (k := 24) (d := 62) (by decide) (by simp) (by simp) (by simp) (hw2 hg (by decide))
  · intro Xs a w hX hdep hC hI
    have e7 := hI.gi 7 rfl
    have ns : Xs 32 = false := by
        cases y32 : Xs 32 with
        | false => rfl
        | true =>
          have y25 := hC 32 _ rfl y32 ⟨25, .phase⟩ (by simp) rfl
          rw [hX] at y25; cases y25
    have hg := hI.wp.1 ns
    have hw2 : ∀ {d w}, G w → d ≠ 32 → (addX Xs d 32 = false → G w) ∧ (addX Xs d 32 = true → G1 w) := fun hg hd => ⟨fun _ => hg, fun h => by simp [addX, ns, hd.symm] at h⟩
    clear ns
    go_simp
    exact hI.put' (k := 25) (d := 63) (by decide) (by simp) (by simp) (by simp) (hw2 hg (by decide))
  · intro Xs a w hX hdep hC hI
    have x25 : Xs 25 = true := hdep ⟨25, .data⟩ (by simp) rfl
    have e63 := hI.gk 25 rfl x25
    have ns : Xs 32 = false := by
        cases y32 : Xs 32 with
        | false => rfl
        | true =>
          have y26 := hC 32 _ rfl y32 ⟨26, .phase⟩ (by simp) rfl
          rw [hX] at y26; cases y26
    have hg := hI.wp.1 ns
    have cc0 := c2_ w hg
    have hw2 : ∀ {d w}, G w → d ≠ 32 → (addX Xs d 32 = false → G w) ∧ (addX Xs d 32 = true → G1 w) := fun hg hd => ⟨fun _ => hg, fun h => by simp [addX, ns, hd.symm] at h⟩
    clear ns
    go_simp
    exact hI.put' (k := 26) (d := 64) (by decide) (by simp) (by simp) (by simp) (hw2 hg (by decide))
  · intro Xs a w hX hdep hC hI
    have x24 : Xs 24 = true := hdep ⟨24, .data⟩ (by simp) rfl
    have e62 := hI.gk 24 rfl x24
    have x26 : Xs 26 = true := hdep ⟨26, .data⟩ (by simp) rfl
    have e64 := hI.gk 26 rfl x26
    have ns : Xs 32 = false := by
        cases y32 : Xs 32 with
        | false => rfl
        | true =>
          have y27 := hC 32 _ rfl y32 ⟨27, .phase⟩ (by simp) rfl
          rw [hX] at y27; cases y27
    have hg := hI.wp.1 ns
    have hw2 : ∀ {d w}, G w → d ≠ 32 → (addX Xs d 32 = false → G w) ∧ (addX Xs d 32 = true → G1 w) := fun hg hd => ⟨fun _ => hg, fun h => by simp [addX, ns, hd.symm] at h⟩
    clear ns
    go_simp
    exact hI.put' (k := 27) (d := 65) (by decide) (by simp) (by simp) (by simp) (hw2 hg (by decide))
  · intro Xs a w hX hdep hC hI
    have x20 : Xs 20 = true := hdep ⟨20, .data⟩ (by simp) rfl
    have e58 := hI.gk 20 rfl x20
    have x27 : Xs 27 = true := hdep ⟨27, .data⟩ (by simp) rfl
    have e65 := hI.gk 27 rfl x27
    have ns : Xs 32 = false := by
        cases y32 : Xs 32 with
        | false => rfl
        | true =>
          have y28 := hC 32 _ rfl y32 ⟨28, .phase⟩ (by simp) rfl
          rw [hX] at y28; cases y28
    have hg := hI.wp.1 ns
    have hw2 : ∀ {d w}, G w → d ≠ 32 → (addX Xs d 32 = false → G w) ∧ (addX Xs d 32 = true → G1 w) := fun hg hd => ⟨fun _ => hg, fun h => by simp [addX, ns, hd.symm] at h⟩
    clear ns
    go_simp
    exact hI.put' (k := 28) (d := 66) (by decide) (by simp) (by simp) (by simp) (hw2 hg (by decide))
  · intro Xs a w hX hdep hC hI
    have x10 : Xs 10 = true := hdep ⟨10, .data⟩ (by simp) rfl
    have e48 := hI.gk 10 rfl x10
    have x17 : Xs 17 = true := hdep ⟨17, .data⟩ (by simp) rfl
    have e55 := hI.gk 17 rfl x17
    have x28 : Xs 28 = true := hdep ⟨28, .data⟩ (by simp) rfl
    have e66 := hI.gk 28 rfl x28
    have ns : Xs 32 = false := by
        cases y32 : Xs 32 with
        | false => rfl
        | true =>
          have y29 := hC 32 _ rfl y32 ⟨29, .phase⟩ (by simp) rfl
          rw [hX] at y29; cases y29
    have hg := hI.wp.1 ns
    have hw2 : ∀ {d w}, G w → d ≠ 32 → (addX Xs d 32 = false → G w) ∧ (addX Xs d 32 = true → G1 w) := fun hg hd => ⟨fun _ => hg, fun h => by simp [addX, ns, hd.symm] at h⟩
    clear ns
    go_simp
    exact hI.put' (k := 29) (d := 67) (by decide) (by simp) (by simp) (by simp) (hw2 hg (by decide))
  · intro Xs a w hX hdep hC hI
    have x29 : Xs 29 = true := hdep ⟨29, .data⟩ (by simp) rfl
    have e67 := hI.gk 29 rfl x29
    have ns : Xs 32 = false := by
        cases y32 : Xs 32 with
        | false => rfl
        | true =>
          have y30 := hC 32 _ rfl y32 ⟨30, .data⟩ (by simp) rfl
          rw [hX] at y30; cases y30
    have hg := hI.wp.1 ns
    have hw2 : ∀ {d w}, G w → d ≠ 32 → (addX Xs d 32 = false → G w) ∧ (addX Xs d 32 = true → G1 w) := fun hg hd => ⟨fun _ => hg, fun h => by simp [addX, ns, hd.symm] at h⟩
    clear ns
    go_simp
    refine ⟨trivial, fun h => (by cases h), (hc (n - 1) w hg).mono ?_⟩
    rintro e w' ⟨rfl, hb2⟩
    exact hI.put' (k := 30) (d := 68) (by decide) (by simp) (by simp) (by simp) (hw2 (hS _ _ hg hb2) (by decide))
  · intro Xs a w hX hdep hC hI
    have x1 : Xs 1 = true := hdep ⟨1, .data⟩ (by simp) rfl
    have e39 := hI.gk 1 rfl x1
    have x2 : Xs 2 = true := hdep ⟨2, .data⟩ (by simp) rfl
    have e40 := hI.gk 2 rfl x2
    have ns : Xs 32 = false := by
        cases y32 : Xs 32 with
        | false => rfl
        | true =>
          have y31 := hC 32 _ rfl y32 ⟨31, .data⟩ (by simp) rfl
          rw [hX] at y31; cases y31
    have hg := hI.wp.1 ns
    have q1_31 : (0 : Int) ≤ i := by omega
    have q2_31 : (i : Int) < N := by omega
    have hw2 : ∀ {d w}, G w → d ≠ 32 → (addX Xs d 32 = false → G w) ∧ (addX Xs d 32 = true → G1 w) := fun hg hd => ⟨fun _ => hg, fun h => by simp [addX, ns, hd.symm] at h⟩
    clear ns
    go_simp
    exact hI.put' (k := 31) (d := 69) (by decide) (by simp) (by simp) (by simp) (hw2 hg (by decide))
  · intro Xs a w hX hdep hC hI
    have x31 : Xs 31 = true := hdep ⟨31, .data⟩ (by simp) rfl
    have e69 := hI.gk 31 rfl x31
    have x30 : Xs 30 = true := hdep ⟨30, .data⟩ (by simp) rfl
    have e68 := hI.gk 30 rfl x30
    have hg := hI.wp.1 hX
    obtain ⟨⟨v0, cw0⟩, v1, cw1⟩ := cw w hg
    obtain ⟨fw0, fw1⟩ := fw w hg
    go_simp
    exact hI.put_none' (k := 32) (by simp) ⟨fun h => by simp [addX] at h, fun _ => hst w hg⟩
  · intro Xs a w hX hI
    refine hQ a w ⟨hI.size, hI.defers, ?_, hI.wp.2 (hX 32 (by simp))⟩
    simp only [List.mem_cons, List.not_mem_nil, or_false, forall_eq_or_imp, forall_eq]
    exact ⟨hI.gi 3 rfl, hI.gi 7 rfl, hI.gi 8 rfl⟩
set_option maxRecDepth 100000 in
set_option maxHeartbeats 4000000 in
theorem ld7 (n : Nat) {G : World → Prop} (S B g2 N : Nat) (X Y Z : Int) (G1 : Nat → World → Prop) (c0 : ∀ w, G w → w.cell? ⟨B, 0, none⟩ = some (.int .i64 X)) (c1 : ∀ w, G w → w.cell? ⟨B, 1, none⟩ = some (.int .i64 Y)) (c2_ : ∀ w, G w → w.cell? ⟨B, 2, none⟩ = some (.int .i64 Z)) (c3 : ∀ w, G w → w.cell? ⟨B, 3, none⟩ = some (.slice (some ⟨g2, 0, none⟩) N N)) (hc : ∀ m w, G w → CallsIn Fence.wide m Try.prog 14 #[.agg #[.int .i64 X, .int .i64 Y, .int .i64 Z, .slice (some ⟨g2, 0, none⟩) N N]] w fun e w' => ∃ (r : Nat), e = .returned (.tuple #[.slice (some ⟨r, 0, none⟩) N N, .int .i64 0]) ∧ (G1 r) w') (Q : Exit → Act → World → Prop) (a : Act) (w : World) (h0 : SG [(3, .pointer (some ⟨S, 0, none⟩)), (7, .pointer (some ⟨B, 0, none⟩))] 125 G a w)
    (hQ : ∀ (r : Nat) a w, SG [(3, .pointer (some ⟨S, 0, none⟩)), (7, .pointer (some ⟨B, 0, none⟩)), (9, .slice (some ⟨r, 0, none⟩) N N), (10, .int .i64 0)] 125 (G1 r) a w → Q .normal a w) : (regOf 7 C11).wpIn Fence.wide n Try.prog Q a w := by
  simp only [regOf, C11, Try.f11, Option.getD, Nat.reduceBEq, Bool.false_eq_true, if_true, if_false]
  refine region_sq (fun k_ a w => match k_ with | 0 => SG [(3, .pointer (some ⟨S, 0, none⟩)), (7, .pointer (some ⟨B, 0, none⟩))] 125 G a w | 1 => SG [(3, .pointer (some ⟨S, 0, none⟩)), (7, .pointer (some ⟨B, 0, none⟩)), (71, .agg #[.int .i64 X, .int .i64 Y, .int .i64 Z, .slice (some ⟨g2, 0, none⟩) N N])] 125 G a w | 2 => ∃ (r : Nat), SG [(3, .pointer (some ⟨S, 0, none⟩)), (7, .pointer (some ⟨B, 0, none⟩)), (72, .tuple #[.slice (some ⟨r, 0, none⟩) N N, .int .i64 0])] 125 (G1 r) a w | 3 => ∃ (r : Nat), SG [(3, .pointer (some ⟨S, 0, none⟩)), (7, .pointer (some ⟨B, 0, none⟩)), (70, .tuple #[.slice (some ⟨r, 0, none⟩) N N, .int .i64 0])] 125 (G1 r) a w | 4 => ∃ (r : Nat), SG [(3, .pointer (some ⟨S, 0, none⟩)), (7, .pointer (some ⟨B, 0, none⟩)), (70, .tuple #[.slice (some ⟨r, 0, none⟩) N N, .int .i64 0]), (73, .slice (some ⟨r, 0, none⟩) N N)] 125 (G1 r) a w | 5 => ∃ (r : Nat), SG [(3, .pointer (some ⟨S, 0, none⟩)), (7, .pointer (some ⟨B, 0, none⟩)), (73, .slice (some ⟨r, 0, none⟩) N N), (74, .int .i64 0)] 125 (G1 r) a w | 6 => ∃ (r : Nat), SG [(3, .pointer (some ⟨S, 0, none⟩)), (7, .pointer (some ⟨B, 0, none⟩)), (74, .int .i64 0), (9, .slice (some ⟨r, 0, none⟩) N N)] 125 (G1 r) a w | _ => ∃ (r : Nat), SG [(3, .pointer (some ⟨S, 0, none⟩)), (7, .pointer (some ⟨B, 0, none⟩)), (9, .slice (some ⟨r, 0, none⟩) N N), (10, .int .i64 0)] 125 (G1 r) a w) (show SG _ _ G a w from h0) ⟨?_, ?_, ?_, ?_, ?_, ?_, ?_, trivial⟩ ?_
  · intro a w hI
    have hI : SG _ _ G a w := hI
    have e7 := hI.g 7 rfl
    have cc0 := c0 w hI.wp
    have cc1 := c1 w hI.wp
    have cc2 := c2_ w hI.wp
    have cc3 := c3 w hI.wp
    go_simp
    exact hI.put (d := 71) (by decide) (by simp) hI.wp
  · intro a w hI
    have hI : SG _ _ G a w := hI
    have e71 := hI.g 71 rfl
    go_simp
    refine ⟨trivial, fun h => (by cases h), (hc (n - 1) w hI.wp).mono ?_⟩
    rintro e w' ⟨r, rfl, hg2⟩
    exact ⟨r, hI.put (d := 72) (by decide) (by simp) hg2⟩
  · rintro a w ⟨r, hI⟩
    have e72 := hI.g 72 rfl
    go_simp
    exact ⟨r, hI.put (d := 70) (by decide) (by simp) hI.wp⟩
  · rintro a w ⟨r, hI⟩
    have e70 := hI.g 70 rfl
    go_simp
    exact ⟨r, hI.put (d := 73) (by decide) (by simp) hI.wp⟩
  · rintro a w ⟨r, hI⟩
    have e70 := hI.g 70 rfl
    go_simp
    exact ⟨r, hI.put (d := 74) (by decide) (by simp) hI.wp⟩
  · rintro a w ⟨r, hI⟩
    have e73 := hI.g 73 rfl
    go_simp
    exact ⟨r, hI.put (d := 9) (by decide) (by simp) hI.wp⟩
  · rintro a w ⟨r, hI⟩
    have e74 := hI.g 74 rfl
    go_simp
    exact ⟨r, hI.put (d := 10) (by decide) (by simp) hI.wp⟩
  · rintro a w ⟨r, hI⟩
    exact hQ r a w hI
set_option maxRecDepth 100000 in
set_option maxHeartbeats 4000000 in
theorem ld8 (n : Nat) (W : World) (S B r g2 N : Nat) (c3 : W.cell? ⟨B, 3, none⟩ = some (.slice (some ⟨g2, 0, none⟩) N N)) (Q : Exit → Act → World → Prop) (a : Act) (h0 : SR [(3, .pointer (some ⟨S, 0, none⟩)), (7, .pointer (some ⟨B, 0, none⟩)), (9, .slice (some ⟨r, 0, none⟩) N N), (10, .int .i64 0)] 125 [] W a W)
    (hQ : ∀ a, SR [(3, .pointer (some ⟨S, 0, none⟩)), (7, .pointer (some ⟨B, 0, none⟩)), (9, .slice (some ⟨r, 0, none⟩) N N), (84, .bool false)] 125 [] (W) a (W) → Q .normal a (W)) : (regOf 8 C11).wpIn Fence.wide n Try.prog Q a W := by
  simp only [regOf, C11, Try.f11, Option.getD, Nat.reduceBEq, Bool.false_eq_true, if_true, if_false]
  refine region_sq (fun k_ a w => match k_ with | 0 => SR [(3, .pointer (some ⟨S, 0, none⟩)), (7, .pointer (some ⟨B, 0, none⟩)), (9, .slice (some ⟨r, 0, none⟩) N N), (10, .int .i64 0)] 125 [] (W) a w | 1 => SR [(3, .pointer (some ⟨S, 0, none⟩)), (7, .pointer (some ⟨B, 0, none⟩)), (9, .slice (some ⟨r, 0, none⟩) N N), (75, .int .i64 0)] 125 [] (W) a w | 2 => SR [(3, .pointer (some ⟨S, 0, none⟩)), (7, .pointer (some ⟨B, 0, none⟩)), (9, .slice (some ⟨r, 0, none⟩) N N), (76, .bool false)] 125 [] (W) a w | 3 => SR [(3, .pointer (some ⟨S, 0, none⟩)), (7, .pointer (some ⟨B, 0, none⟩)), (9, .slice (some ⟨r, 0, none⟩) N N), (77, .bool false)] 125 [] (W) a w | 4 => SR [(3, .pointer (some ⟨S, 0, none⟩)), (7, .pointer (some ⟨B, 0, none⟩)), (9, .slice (some ⟨r, 0, none⟩) N N), (77, .bool false), (78, .slice (some ⟨r, 0, none⟩) N N)] 125 [] (W) a w | 5 => SR [(3, .pointer (some ⟨S, 0, none⟩)), (7, .pointer (some ⟨B, 0, none⟩)), (9, .slice (some ⟨r, 0, none⟩) N N), (77, .bool false), (79, .int .i64 N)] 125 [] (W) a w | 6 => SR [(3, .pointer (some ⟨S, 0, none⟩)), (7, .pointer (some ⟨B, 0, none⟩)), (9, .slice (some ⟨r, 0, none⟩) N N), (77, .bool false), (79, .int .i64 N), (80, .pointer (some ⟨B, 3, none⟩))] 125 [] (W) a w | 7 => SR [(3, .pointer (some ⟨S, 0, none⟩)), (7, .pointer (some ⟨B, 0, none⟩)), (9, .slice (some ⟨r, 0, none⟩) N N), (77, .bool false), (79, .int .i64 N), (81, .slice (some ⟨g2, 0, none⟩) N N)] 125 [] (W) a w | 8 => SR [(3, .pointer (some ⟨S, 0, none⟩)), (7, .pointer (some ⟨B, 0, none⟩)), (9, .slice (some ⟨r, 0, none⟩) N N), (77, .bool false), (79, .int .i64 N), (82, .int .i64 N)] 125 [] (W) a w | 9 => SR [(3, .pointer (some ⟨S, 0, none⟩)), (7, .pointer (some ⟨B, 0, none⟩)), (9, .slice (some ⟨r, 0, none⟩) N N), (77, .bool false), (83, .bool false)] 125 [] (W) a w | _ => SR [(3, .pointer (some ⟨S, 0, none⟩)), (7, .pointer (some ⟨B, 0, none⟩)), (9, .slice (some ⟨r, 0, none⟩) N N), (84, .bool false)] 125 [] (W) a w) (show SR _ _ _ _ a W from h0) ⟨?_, ?_, ?_, ?_, ?_, ?_, ?_, ?_, ?_, ?_, trivial⟩ ?_
  · intro a w hI
    have hI : SR _ _ _ _ a w := hI
    have e10 := hI.g 10 rfl
    have hw : w = W := hI.wp
    subst hw
    go_simp
    exact hI.put (d := 75) (by decide) (by simp)
  · intro a w hI
    have hI : SR _ _ _ _ a w := hI
    have e75 := hI.g 75 rfl
    have hw : w = W := hI.wp
    subst hw
    go_simp
    exact hI.put (d := 76) (by decide) (by simp)
  · intro a w hI
    have hI : SR _ _ _ _ a w := hI
    have e76 := hI.g 76 rfl
    have hw : w = W := hI.wp
    subst hw
    go_simp
    exact hI.put (d := 77) (by decide) (by simp)
  · intro a w hI
    have hI : SR _ _ _ _ a w := hI
    have e9 := hI.g 9 rfl
    have e77 := hI.g 77 rfl
    have f77 := slot_bool e77
    have hw : w = W := hI.wp
    subst hw
    go_simp
    exact hI.put (d := 78) (by decide) (by simp)
  · intro a w hI
    have hI : SR _ _ _ _ a w := hI
    have e78 := hI.g 78 rfl
    have e77 := hI.g 77 rfl
    have f77 := slot_bool e77
    have hw : w = W := hI.wp
    subst hw
    go_simp
    exact hI.put (d := 79) (by decide) (by simp)
  · intro a w hI
    have hI : SR _ _ _ _ a w := hI
    have e7 := hI.g 7 rfl
    have e77 := hI.g 77 rfl
    have f77 := slot_bool e77
    have hw : w = W := hI.wp
    subst hw
    go_simp
    exact hI.put (d := 80) (by decide) (by simp)
  · intro a w hI
    have hI : SR _ _ _ _ a w := hI
    have e80 := hI.g 80 rfl
    have e77 := hI.g 77 rfl
    have f77 := slot_bool e77
    have hw : w = W := hI.wp
    subst hw
    go_simp
    exact hI.put (d := 81) (by decide) (by simp)
  · intro a w hI
    have hI : SR _ _ _ _ a w := hI
    have e81 := hI.g 81 rfl
    have e77 := hI.g 77 rfl
    have f77 := slot_bool e77
    have hw : w = W := hI.wp
    subst hw
    go_simp
    exact hI.put (d := 82) (by decide) (by simp)
  · intro a w hI
    have hI : SR _ _ _ _ a w := hI
    have e79 := hI.g 79 rfl
    have e82 := hI.g 82 rfl
    have e77 := hI.g 77 rfl
    have f77 := slot_bool e77
    have hw : w = W := hI.wp
    subst hw
    go_simp
    exact hI.put (d := 83) (by decide) (by simp)
  · intro a w hI
    have hI : SR _ _ _ _ a w := hI
    have e77 := hI.g 77 rfl
    have e83 := hI.g 83 rfl
    have hw : w = W := hI.wp
    subst hw
    go_simp
    exact hI.put (d := 84) (by decide) (by simp)
  · intro a w hI
    have hI : SR _ _ _ _ a w := hI
    have hw : w = W := hI.wp
    subst hw
    exact hQ a hI
set_option maxRecDepth 100000 in
set_option maxHeartbeats 4000000 in
theorem ld10 (n : Nat) (W : World) (S B r N : Nat) (Q : Exit → Act → World → Prop) (a : Act) (h0 : SR [(3, .pointer (some ⟨S, 0, none⟩)), (7, .pointer (some ⟨B, 0, none⟩)), (9, .slice (some ⟨r, 0, none⟩) N N)] 125 [] W a W)
    (hQ : ∀ a, SR [(3, .pointer (some ⟨S, 0, none⟩)), (7, .pointer (some ⟨B, 0, none⟩)), (9, .slice (some ⟨r, 0, none⟩) N N), (11, .int .i64 0)] 125 [] (W) a (W) → Q .normal a (W)) : (regOf 10 C11).wpIn Fence.wide n Try.prog Q a W := by
  simp only [regOf, C11, Try.f11, Option.getD, Nat.reduceBEq, Bool.false_eq_true, if_true, if_false]
  refine region_sq (fun k_ a w => match k_ with | 0 => SR [(3, .pointer (some ⟨S, 0, none⟩)), (7, .pointer (some ⟨B, 0, none⟩)), (9, .slice (some ⟨r, 0, none⟩) N N)] 125 [] (W) a w | _ => SR [(3, .pointer (some ⟨S, 0, none⟩)), (7, .pointer (some ⟨B, 0, none⟩)), (9, .slice (some ⟨r, 0, none⟩) N N), (11, .int .i64 0)] 125 [] (W) a w) (show SR _ _ _ _ a W from h0) ⟨?_, trivial⟩ ?_
  · intro a w hI
    have hI : SR _ _ _ _ a w := hI
    have hw : w = W := hI.wp
    subst hw
    go_simp
    exact hI.put (d := 11) (by decide) (by simp)
  · intro a w hI
    have hI : SR _ _ _ _ a w := hI
    have hw : w = W := hI.wp
    subst hw
    exact hQ a hI
set_option maxRecDepth 100000 in
set_option maxHeartbeats 4000000 in
theorem ld11 (n : Nat) (W : World) (S B r N i : Nat) (Q : Exit → Act → World → Prop) (a : Act) (h0 : SR [(3, .pointer (some ⟨S, 0, none⟩)), (7, .pointer (some ⟨B, 0, none⟩)), (9, .slice (some ⟨r, 0, none⟩) N N), (11, .int .i64 i)] 125 [] W a W)
    (hQ : ∀ a, SR [(3, .pointer (some ⟨S, 0, none⟩)), (7, .pointer (some ⟨B, 0, none⟩)), (9, .slice (some ⟨r, 0, none⟩) N N), (11, .int .i64 i), (88, .bool (decide (i < N)))] 125 [] (W) a (W) → Q .normal a (W)) : (regOf 11 C11).wpIn Fence.wide n Try.prog Q a W := by
  simp only [regOf, C11, Try.f11, Option.getD, Nat.reduceBEq, Bool.false_eq_true, if_true, if_false]
  refine region_sq (fun k_ a w => match k_ with | 0 => SR [(3, .pointer (some ⟨S, 0, none⟩)), (7, .pointer (some ⟨B, 0, none⟩)), (9, .slice (some ⟨r, 0, none⟩) N N), (11, .int .i64 i)] 125 [] (W) a w | 1 => SR [(3, .pointer (some ⟨S, 0, none⟩)), (7, .pointer (some ⟨B, 0, none⟩)), (9, .slice (some ⟨r, 0, none⟩) N N), (11, .int .i64 i), (85, .int .i64 i)] 125 [] (W) a w | 2 => SR [(3, .pointer (some ⟨S, 0, none⟩)), (7, .pointer (some ⟨B, 0, none⟩)), (9, .slice (some ⟨r, 0, none⟩) N N), (11, .int .i64 i), (85, .int .i64 i), (86, .slice (some ⟨r, 0, none⟩) N N)] 125 [] (W) a w | 3 => SR [(3, .pointer (some ⟨S, 0, none⟩)), (7, .pointer (some ⟨B, 0, none⟩)), (9, .slice (some ⟨r, 0, none⟩) N N), (11, .int .i64 i), (85, .int .i64 i), (87, .int .i64 N)] 125 [] (W) a w | _ => SR [(3, .pointer (some ⟨S, 0, none⟩)), (7, .pointer (some ⟨B, 0, none⟩)), (9, .slice (some ⟨r, 0, none⟩) N N), (11, .int .i64 i), (88, .bool (decide (i < N)))] 125 [] (W) a w) (show SR _ _ _ _ a W from h0) ⟨?_, ?_, ?_, ?_, trivial⟩ ?_
  · intro a w hI
    have hI : SR _ _ _ _ a w := hI
    have e11 := hI.g 11 rfl
    have hw : w = W := hI.wp
    subst hw
    go_simp
    exact hI.put (d := 85) (by decide) (by simp)
  · intro a w hI
    have hI : SR _ _ _ _ a w := hI
    have e9 := hI.g 9 rfl
    have hw : w = W := hI.wp
    subst hw
    go_simp
    exact hI.put (d := 86) (by decide) (by simp)
  · intro a w hI
    have hI : SR _ _ _ _ a w := hI
    have e86 := hI.g 86 rfl
    have hw : w = W := hI.wp
    subst hw
    go_simp
    exact hI.put (d := 87) (by decide) (by simp)
  · intro a w hI
    have hI : SR _ _ _ _ a w := hI
    have e85 := hI.g 85 rfl
    have e87 := hI.g 87 rfl
    have hw : w = W := hI.wp
    subst hw
    go_simp
    exact hI.put (d := 88) (by decide) (by simp)
  · intro a w hI
    have hI : SR _ _ _ _ a w := hI
    have hw : w = W := hI.wp
    subst hw
    exact hQ a hI
set_option maxRecDepth 100000 in
set_option maxHeartbeats 4000000 in
theorem ld12 (n : Nat) (W : World) (S B r N i : Nat) (hi : i < 9000000000) (Q : Exit → Act → World → Prop) (a : Act) (h0 : SR [(3, .pointer (some ⟨S, 0, none⟩)), (7, .pointer (some ⟨B, 0, none⟩)), (9, .slice (some ⟨r, 0, none⟩) N N), (11, .int .i64 i)] 125 [] W a W)
    (hQ : ∀ a, SR [(3, .pointer (some ⟨S, 0, none⟩)), (7, .pointer (some ⟨B, 0, none⟩)), (9, .slice (some ⟨r, 0, none⟩) N N), (11, .int .i64 ((i : Int) + 1))] 125 [] (W) a (W) → Q .normal a (W)) : (regOf 12 C11).wpIn Fence.wide n Try.prog Q a W := by
  simp only [regOf, C11, Try.f11, Option.getD, Nat.reduceBEq, Bool.false_eq_true, if_true, if_false]
  refine region_sq (fun k_ a w => match k_ with | 0 => SR [(3, .pointer (some ⟨S, 0, none⟩)), (7, .pointer (some ⟨B, 0, none⟩)), (9, .slice (some ⟨r, 0, none⟩) N N), (11, .int .i64 i)] 125 [] (W) a w | 1 => SR [(3, .pointer (some ⟨S, 0, none⟩)), (7, .pointer (some ⟨B, 0, none⟩)), (9, .slice (some ⟨r, 0, none⟩) N N), (89, .int .i64 i)] 125 [] (W) a w | 2 => SR [(3, .pointer (some ⟨S, 0, none⟩)), (7, .pointer (some ⟨B, 0, none⟩)), (9, .slice (some ⟨r, 0, none⟩) N N), (90, .int .i64 ((i : Int) + 1))] 125 [] (W) a w | _ => SR [(3, .pointer (some ⟨S, 0, none⟩)), (7, .pointer (some ⟨B, 0, none⟩)), (9, .slice (some ⟨r, 0, none⟩) N N), (11, .int .i64 ((i : Int) + 1))] 125 [] (W) a w) (show SR _ _ _ _ a W from h0) ⟨?_, ?_, ?_, trivial⟩ ?_
  · intro a w hI
    have hI : SR _ _ _ _ a w := hI
    have e11 := hI.g 11 rfl
    have hw : w = W := hI.wp
    subst hw
    go_simp
    exact hI.put (d := 89) (by decide) (by simp)
  · intro a w hI
    have hI : SR _ _ _ _ a w := hI
    have e89 := hI.g 89 rfl
    have hw : w = W := hI.wp
    subst hw
    have hw1 : IntKind.i64.wrap ((i : Int) + 1) = (i : Int) + 1 := IntWalk.i64_in _ (by omega)
    go_simp
    exact hI.put (d := 90) (by decide) (by simp)
  · intro a w hI
    have hI : SR _ _ _ _ a w := hI
    have e90 := hI.g 90 rfl
    have hw : w = W := hI.wp
    subst hw
    go_simp
    exact hI.put (d := 11) (by decide) (by simp)
  · intro a w hI
    have hI : SR _ _ _ _ a w := hI
    have hw : w = W := hI.wp
    subst hw
    exact hQ a hI
set_option maxRecDepth 100000 in
set_option maxHeartbeats 4000000 in
theorem ld13 (n : Nat) {G : World → Prop} (hS : Stable G) (S B r N i : Nat) (X Z x q z y : Nat) (px pz rx rz ax az : Int) (d1 : ¬ X = 0) (d2 : ¬ Z = 0) (hx : Int.tmod (i : Int) X = (x : Int)) (hq : IntKind.i64.wrap ((i : Int) / X) = (q : Int)) (hz : Int.tmod (q : Int) Z = (z : Int)) (hy : IntKind.i64.wrap ((q : Int) / Z) = (y : Int)) (hrx : Int.tmod px 1000 = rx) (hrz : Int.tmod pz 1000 = rz) (hax : IntKind.i64.wrap (rx + x) = ax) (haz : IntKind.i64.wrap (rz + z) = az) (k v : Nat) (hi : i < N) (la0 : ∀ w, G w → w.cell? ⟨r, i * 2, none⟩ = some (.int .u8 k)) (la1 : ∀ w, G w → w.cell? ⟨r, i * 2 + 1, none⟩ = some (.int .u8 v)) (s0 : ∀ w, G w → w.cell? ⟨S, 0, none⟩ = some (.int .i64 px)) (c0 : ∀ w, G w → w.cell? ⟨B, 0, none⟩ = some (.int .i64 X)) (c2_ : ∀ w, G w → w.cell? ⟨B, 2, none⟩ = some (.int .i64 Z)) (s2 : ∀ w, G w → w.cell? ⟨S, 2, none⟩ = some (.int .i64 pz)) (hc : ∀ m w, G w → CallsIn Fence.wide m Try.prog 22 #[.agg #[.int .i64 ax, .int .i64 y, .int .i64 az]] w fun e w' => e = .returned (.agg #[.int .u8 k, .int .u8 v]) ∧ Below w.heap.size w w') (Q : Exit → Act → World → Prop) (a : Act) (w : World) (h0 : SG [(3, .pointer (some ⟨S, 0, none⟩)), (7, .pointer (some ⟨B, 0, none⟩)), (9, .slice (some ⟨r, 0, none⟩) N N), (11, .int .i64 i)] 125 G a w)
    (hQ : ∀ a w, SG [(3, .pointer (some ⟨S, 0, none⟩)), (7, .pointer (some ⟨B, 0, none⟩)), (9, .slice (some ⟨r, 0, none⟩) N N), (11, .int .i64 i), (123, .bool false)] 125 G a w → Q .normal a w) : (regOf 13 C11).wpIn Fence.wide n Try.prog Q a w := by
  have hmix : Try.prog.follows .mixedOrders = true := by kernel_rfl
  simp only [regOf, C11, Try.f11, Option.getD, Nat.reduceBEq, Bool.false_eq_true, if_true, if_false]
  refine region_inv (RI [(3, .pointer (some ⟨S, 0, none⟩)), (7, .pointer (some ⟨B, 0, none⟩)), (9, .slice (some ⟨r, 0, none⟩) N N), (11, .int .i64 i)]
    [(0, 91, .slice (some ⟨r, 0, none⟩) N N), (1, 92, .int .i64 i), (2, 93, .pointer (some ⟨r, i * 2, none⟩)), (3, 94, .agg #[.int .u8 k, .int .u8 v]), (4, 95, .pointer (some ⟨S, 0, none⟩)), (5, 96, .int .i64 px), (6, 97, .int .i64 rx), (7, 98, .int .i64 i), (8, 99, .pointer (some ⟨B, 0, none⟩)), (9, 100, .int .i64 X), (10, 101, .int .i64 x), (11, 102, .int .i64 ax), (12, 103, .int .i64 i), (13, 104, .pointer (some ⟨B, 0, none⟩)), (14, 105, .int .i64 X), (15, 106, .int .i64 q), (16, 107, .pointer (some ⟨B, 2, none⟩)), (17, 108, .int .i64 Z), (18, 109, .int .i64 y), (19, 110, .pointer (some ⟨S, 2, none⟩)), (20, 111, .int .i64 pz), (21, 112, .int .i64 rz), (22, 113, .int .i64 i), (23, 114, .pointer (some ⟨B, 0, none⟩)), (24, 115, .int .i64 X), (25, 116, .int .i64 q), (26, 117, .pointer (some ⟨B, 2, none⟩)), (27, 118, .int .i64 Z), (28, 119, .int .i64 z), (29, 120, .int .i64 az), (30, 121, .agg #[.int .i64 ax, .int .i64 y, .int .i64 az]), (31, 122, .agg #[.int .u8 k, .int .u8 v]), (32, 123, .bool false)] 125 [] (fun _ w => G w)) hmix (by kernel_rfl) ⟨h0.size, h0.defers, h0.kn, by simp, hS _ _ h0.wp (Below.refl _ _).drew⟩ ⟨?_, ?_, ?_, ?_, ?_, ?_, ?_, ?_, ?_, ?_, ?_, ?_, ?_, ?_, ?_, ?_, ?_, ?_, ?_, ?_, ?_, ?_, ?_, ?_, ?_, ?_, ?_, ?_, ?_, ?_, ?_, ?_, ?_, trivial⟩ ?_
  · intro Xs a w hX hdep hC hI
    have e9 := hI.gi 9 rfl
    go_simp
    exact hI.put' (k := 0) (d := 91) (by decide) (by simp) (by simp) (by simp) hI.wp
  · intro Xs a w hX hdep hC hI
    have e11 := hI.gi 11 rfl
    go_simp
    exact hI.put' (k := 1) (d := 92) (by decide) (by simp) (by simp) (by simp) hI.wp
  · intro Xs a w hX hdep hC hI
    have x0 : Xs 0 = true := hdep ⟨0, .data⟩ (by simp) rfl
    have e91 := hI.gk 0 rfl x0
    have x1 : Xs 1 = true := hdep ⟨1, .data⟩ (by simp) rfl
    have e92 := hI.gk 1 rfl x1
    have q1_2 : (0 : Int) ≤ i := by omega
    have q2_2 : (i : Int) < N := by omega
    go_simp
    exact hI.put' (k := 2) (d := 93) (by decide) (by simp) (by simp) (by simp) hI.wp
  · intro Xs a w hX hdep hC hI
    have x2 : Xs 2 = true := hdep ⟨2, .data⟩ (by simp) rfl
    have e93 := hI.gk 2 rfl x2
    have cc0 := la0 w hI.wp
    have cc1 := la1 w hI.wp
    go_simp
    exact hI.put' (k := 3) (d := 94) (by decide) (by simp) (by simp) (by simp) hI.wp
  · intro Xs a w hX hdep hC hI
    have e3 := hI.gi 3 rfl
    go_simp
    exact hI.put' (k := 4) (d := 95) (by decide) (by simp) (by simp) (by simp) hI.wp
  · intro Xs a w hX hdep hC hI
    have x4 : Xs 4 = true := hdep ⟨4, .data⟩ (by simp) rfl
    have e95 := hI.gk 4 rfl x4
    have cc0 := s0 w hI.wp
    go_simp
    exact hI.put' (k := 5) (d := 96) (by decide) (by simp) (by simp) (by simp) hI.wp
  · intro Xs a w hX hdep hC hI
    have x5 : Xs 5 = true := hdep ⟨5, .data⟩ (by simp) rfl
    have e96 := hI.gk 5 rfl x5
    go_simp
    exact hI.put' (k := 6) (d := 97) (by decide) (by simp) (by simp) (by simp) hI.wp
  · intro Xs a w hX hdep hC hI
    have e11 := hI.gi 11 rfl
    go_simp
    exact hI.put' (k := 7) (d := 98) (by decide) (by simp) (by simp) (by simp) hI.wp
  · intro Xs a w hX hdep hC hI
    have e7 := hI.gi 7 rfl
    go_simp
    exact hI.put' (k := 8) (d := 99) (by decide) (by simp) (by simp) (by simp) hI.wp
  · intro Xs a w hX hdep hC hI
    have x8 : Xs 8 = true := hdep ⟨8, .data⟩ (by simp) rfl
    have e99 := hI.gk 8 rfl x8
    have cc0 := c0 w hI.wp
    go_simp
    exact hI.put' (k := 9) (d := 100) (by decide) (by simp) (by simp) (by simp) hI.wp
  · intro Xs a w hX hdep hC hI
    have x7 : Xs 7 = true := hdep ⟨7, .data⟩ (by simp) rfl
    have e98 := hI.gk 7 rfl x7
    have x9 : Xs 9 = true := hdep ⟨9, .data⟩ (by simp) rfl
    have e100 := hI.gk 9 rfl x9
    go_simp
    exact hI.put' (k := 10) (d := 101) (by decide) (by simp) (by simp) (by simp) hI.wp
  · intro Xs a w hX hdep hC hI
    have x6 : Xs 6 = true := hdep ⟨6, .data⟩ (by simp) rfl
    have e97 := hI.gk 6 rfl x6
    have x10 : Xs 10 = true := hdep ⟨10, .data⟩ (by simp) rfl
    have e101 := hI.gk 10 rfl x10
    go_simp
    exact hI.put' (k := 11) (d := 102) (by decide) (by simp) (by simp) (by simp) hI.wp
  · intro Xs a w hX hdep hC hI
    have e11 := hI.gi 11 rfl
    go_simp
    exact hI.put' (k := 12) (d := 103) (by decide) (by simp) (by simp) (by simp) hI.wp
  · intro Xs a w hX hdep hC hI
    have e7 := hI.gi 7 rfl
    go_simp
    exact hI.put' (k := 13) (d := 104) (by decide) (by simp) (by simp) (by simp) hI.wp
  · intro Xs a w hX hdep hC hI
    have x13 : Xs 13 = true := hdep ⟨13, .data⟩ (by simp) rfl
    have e104 := hI.gk 13 rfl x13
    have cc0 := c0 w hI.wp
    go_simp
    exact hI.put' (k := 14) (d := 105) (by decide) (by simp) (by simp) (by simp) hI.wp
  · intro Xs a w hX hdep hC hI
    have x12 : Xs 12 = true := hdep ⟨12, .data⟩ (by simp) rfl
    have e103 := hI.gk 12 rfl x12
    have x14 : Xs 14 = true := hdep ⟨14, .data⟩ (by simp) rfl
    have e105 := hI.gk 14 rfl x14
    go_simp
    exact hI.put' (k := 15) (d := 106) (by decide) (by simp) (by simp) (by simp) hI.wp
  · intro Xs a w hX hdep hC hI
    have e7 := hI.gi 7 rfl
    go_simp
    exact hI.put' (k := 16) (d := 107) (by decide) (by simp) (by simp) (by simp) hI.wp
  · intro Xs a w hX hdep hC hI
    have x16 : Xs 16 = true := hdep ⟨16, .data⟩ (by simp) rfl
    have e107 := hI.gk 16 rfl x16
    have cc0 := c2_ w hI.wp
    go_simp
    exact hI.put' (k := 17) (d := 108) (by decide) (by simp) (by simp) (by simp) hI.wp
  · intro Xs a w hX hdep hC hI
    have x15 : Xs 15 = true := hdep ⟨15, .data⟩ (by simp) rfl
    have e106 := hI.gk 15 rfl x15
    have x17 : Xs 17 = true := hdep ⟨17, .data⟩ (by simp) rfl
    have e108 := hI.gk 17 rfl x17
    go_simp
    exact hI.put' (k := 18) (d := 109) (by decide) (by simp) (by simp) (by simp) hI.wp
  · intro Xs a w hX hdep hC hI
    have e3 := hI.gi 3 rfl
    go_simp
    exact hI.put' (k := 19) (d := 110) (by decide) (by simp) (by simp) (by simp) hI.wp
  · intro Xs a w hX hdep hC hI
    have x19 : Xs 19 = true := hdep ⟨19, .data⟩ (by simp) rfl
    have e110 := hI.gk 19 rfl x19
    have cc0 := s2 w hI.wp
    go_simp
    exact hI.put' (k := 20) (d := 111) (by decide) (by simp) (by simp) (by simp) hI.wp
  · intro Xs a w hX hdep hC hI
    have x20 : Xs 20 = true := hdep ⟨20, .data⟩ (by simp) rfl
    have e111 := hI.gk 20 rfl x20
    go_simp
    exact hI.put' (k := 21) (d := 112) (by decide) (by simp) (by simp) (by simp) hI.wp
  · intro Xs a w hX hdep hC hI
    have e11 := hI.gi 11 rfl
    go_simp
    exact hI.put' (k := 22) (d := 113) (by decide) (by simp) (by simp) (by simp) hI.wp
  · intro Xs a w hX hdep hC hI
    have e7 := hI.gi 7 rfl
    go_simp
    exact hI.put' (k := 23) (d := 114) (by decide) (by simp) (by simp) (by simp) hI.wp
  · intro Xs a w hX hdep hC hI
    have x23 : Xs 23 = true := hdep ⟨23, .data⟩ (by simp) rfl
    have e114 := hI.gk 23 rfl x23
    have cc0 := c0 w hI.wp
    go_simp
    exact hI.put' (k := 24) (d := 115) (by decide) (by simp) (by simp) (by simp) hI.wp
  · intro Xs a w hX hdep hC hI
    have x22 : Xs 22 = true := hdep ⟨22, .data⟩ (by simp) rfl
    have e113 := hI.gk 22 rfl x22
    have x24 : Xs 24 = true := hdep ⟨24, .data⟩ (by simp) rfl
    have e115 := hI.gk 24 rfl x24
    go_simp
    exact hI.put' (k := 25) (d := 116) (by decide) (by simp) (by simp) (by simp) hI.wp
  · intro Xs a w hX hdep hC hI
    have e7 := hI.gi 7 rfl
    go_simp
    exact hI.put' (k := 26) (d := 117) (by decide) (by simp) (by simp) (by simp) hI.wp
  · intro Xs a w hX hdep hC hI
    have x26 : Xs 26 = true := hdep ⟨26, .data⟩ (by simp) rfl
    have e117 := hI.gk 26 rfl x26
    have cc0 := c2_ w hI.wp
    go_simp
    exact hI.put' (k := 27) (d := 118) (by decide) (by simp) (by simp) (by simp) hI.wp
  · intro Xs a w hX hdep hC hI
    have x25 : Xs 25 = true := hdep ⟨25, .data⟩ (by simp) rfl
    have e116 := hI.gk 25 rfl x25
    have x27 : Xs 27 = true := hdep ⟨27, .data⟩ (by simp) rfl
    have e118 := hI.gk 27 rfl x27
    go_simp
    exact hI.put' (k := 28) (d := 119) (by decide) (by simp) (by simp) (by simp) hI.wp
  · intro Xs a w hX hdep hC hI
    have x21 : Xs 21 = true := hdep ⟨21, .data⟩ (by simp) rfl
    have e112 := hI.gk 21 rfl x21
    have x28 : Xs 28 = true := hdep ⟨28, .data⟩ (by simp) rfl
    have e119 := hI.gk 28 rfl x28
    go_simp
    exact hI.put' (k := 29) (d := 120) (by decide) (by simp) (by simp) (by simp) hI.wp
  · intro Xs a w hX hdep hC hI
    have x11 : Xs 11 = true := hdep ⟨11, .data⟩ (by simp) rfl
    have e102 := hI.gk 11 rfl x11
    have x18 : Xs 18 = true := hdep ⟨18, .data⟩ (by simp) rfl
    have e109 := hI.gk 18 rfl x18
    have x29 : Xs 29 = true := hdep ⟨29, .data⟩ (by simp) rfl
    have e120 := hI.gk 29 rfl x29
    go_simp
    exact hI.put' (k := 30) (d := 121) (by decide) (by simp) (by simp) (by simp) hI.wp
  · intro Xs a w hX hdep hC hI
    have x30 : Xs 30 = true := hdep ⟨30, .data⟩ (by simp) rfl
    have e121 := hI.gk 30 rfl x30
    go_simp
    refine ⟨trivial, fun h => (by cases h), (hc (n - 1) w hI.wp).mono ?_⟩
    rintro e w' ⟨rfl, hb2⟩
    exact hI.put' (k := 31) (d := 122) (by decide) (by simp) (by simp) (by simp) (hS _ _ hI.wp hb2)
  · intro Xs a w hX hdep hC hI
    have x3 : Xs 3 = true := hdep ⟨3, .data⟩ (by simp) rfl
    have e94 := hI.gk 3 rfl x3
    have x31 : Xs 31 = true := hdep ⟨31, .data⟩ (by simp) rfl
    have e122 := hI.gk 31 rfl x31
    go_simp
    exact hI.put' (k := 32) (d := 123) (by decide) (by simp) (by simp) (by simp) hI.wp
  · intro Xs a w hX hI
    refine hQ a w ⟨hI.size, hI.defers, ?_, hI.wp⟩
    simp only [List.mem_cons, List.not_mem_nil, or_false, forall_eq_or_imp, forall_eq]
    exact ⟨hI.gi 3 rfl, hI.gi 7 rfl, hI.gi 9 rfl, hI.gi 11 rfl, hI.gk 32 rfl (hX 32 (by simp))⟩
set_option maxRecDepth 100000 in
set_option maxHeartbeats 4000000 in
theorem ld15 (n : Nat) {G : World → Prop} (hS : Stable G)  (hw : ∀ m w, G w → CallsIn Fence.wide m Try.prog 13 #[] w fun e w' => e = .returned (.bool true) ∧ Below w.heap.size w w') (Q : Exit → Act → World → Prop) (a : Act) (w : World) (h0 : SG [] 125 G a w)
    (hQ : ∀ a w, SG [(6, .bool true)] 125 G a w → Q .normal a w) : (regOf 15 C11).wpIn Fence.wide n Try.prog Q a w := by
  simp only [regOf, C11, Try.f11, Option.getD, Nat.reduceBEq, Bool.false_eq_true, if_true, if_false]
  refine region_sq (fun k_ a w => match k_ with | 0 => SG [] 125 G a w | 1 => SG [(124, .bool true)] 125 G a w | _ => SG [(6, .bool true)] 125 G a w) (show SG _ _ G a w from h0) ⟨?_, ?_, trivial⟩ ?_
  · intro a w hI
    have hI : SG _ _ G a w := hI
    go_simp
    refine ⟨trivial, fun h => (by cases h), (hw (n - 1) w hI.wp).mono ?_⟩
    rintro e w' ⟨rfl, hb2⟩
    exact hI.put (d := 124) (by decide) (by simp) (hS _ _ hI.wp hb2)
  · intro a w hI
    have hI : SG _ _ G a w := hI
    have e124 := hI.g 124 rfl
    go_simp
    exact hI.put (d := 6) (by decide) (by simp) hI.wp
  · intro a w hI
    have hI : SG _ _ G a w := hI
    exact hQ a w hI
/-! ### The land -/
theorem wmulL {a b : Nat} (h : a * b ≤ 9000000000) : IntKind.i64.wrap ((a : Int) * b) = ((a * b : Nat) : Int) := by
  rw [Int.natCast_mul]; exact IntWalk.i64_in _ (by rw [← Int.natCast_mul]; omega)
theorem wadd1L {b : Nat} (h : b ≤ 9000000000) : IntKind.i64.wrap (1 + (b : Int)) = ((1 + b : Nat) : Int) := by
  rw [Int.natCast_add]; exact IntWalk.i64_in _ (by omega)
theorem widL {b : Nat} (h : b ≤ 9000000000) : IntKind.i64.wrap (b : Int) = (b : Int) := IntWalk.i64_in _ (by omega)
theorem wdivL {a b : Nat} (h : a ≤ 9000000000) : IntKind.i64.wrap ((a : Int) / b) = ((a / b : Nat) : Int) := by
  have : a / b ≤ a := Nat.div_le_self _ _
  rw [← Int.natCast_ediv]
  generalize a / b = q at *
  exact IntWalk.i64_in _ (by omega)
theorem tmodL (a b : Nat) : Int.tmod (a : Int) b = ((a % b : Nat) : Int) := rfl
def landK (y : Nat) : Nat := if y = 0 then 1 else if 15 < y then 0 else if 11 < y then 3 else 2
def landS (y : Nat) : Nat := if 15 < y then 15 else 0
abbrev o2 (t : TypeId) (a b : Nat) : Obj := .cells #[.int .u8 a, .int .u8 b] t (0, 0)
section
variable {W0 w : World} {bs : List (Nat × Obj)} {b : Nat} {t : TypeId} {k l : Nat}
theorem Has.o2set0 (hh : Has W0 ((b, o2 t k l) :: bs) w) (k' : Nat) : Has W0 ((b, o2 t k' l) :: bs) (w.setCell ⟨b, 0, none⟩ (.int .u8 k')) := by
  have := hh.set (m := 0) (.int .u8 k'); simpa using this
theorem Has.o2set1 (hh : Has W0 ((b, o2 t k l) :: bs) w) (l' : Nat) : Has W0 ((b, o2 t k l') :: bs) (w.setCell ⟨b, 1, none⟩ (.int .u8 l')) := by
  have := hh.set (m := 1) (.int .u8 l'); simpa using this
end
theorem C32_eq : C32 = .seq (regOf 0 C32) (.seq (regOf 1 C32) .ret) := by kernel_rfl
theorem may_in (n : Nat) (w : World) (X Y Z : Int) (h1 : -1048576 ≤ X) (h2 : X < 1048576) (h3 : -1048576 ≤ Z) (h4 : Z < 1048576) (h5 : 0 ≤ Y) (h6 : Y < 64) : CallsIn Fence.wide n Try.prog 32 #[.agg #[.int .i64 X, .int .i64 Y, .int .i64 Z]] w fun e w' => e = .returned (.bool true) ∧ Below w.heap.size w w' := by
  refine callsIn_of_wp Try.func32 rfl trivial ?_
  show C32.wpIn _ _ _ _ _ _
  rw [C32_eq]
  refine wpIn_seq (may0 n w X Y Z _ _ ⟨by simp [Try.ntmps32], rfl, by simp [Try.ntmps32], rfl⟩ ?_)
  intro a1 hs1
  have hH := (Has.start w).alloc (.cells #[.int .i64 X, .int .i64 Y, .int .i64 Z] 48)
  refine wpIn_seq (may1 n (Has.stable _ _) w.heap.size X Y Z h1 h2 h3 h4 h5 h6 (fun w hh => hh.cell List.mem_cons_self rfl) (fun w hh => hh.cell List.mem_cons_self rfl) (fun w hh => hh.cell List.mem_cons_self rfl) _ a1 _ (hs1.sg hH) ?_)
  intro a2 w2 h
  exact wpIn_ret ⟨h.defers, _, results_tmp (t := 2) rfl _ _ _, by rw [Array.getD_eq_getD_getElem?, h.kn (2, .bool true) (by simp)], h.wp.bel⟩
theorem C33_eq : C33 = .seq (regOf 0 C33) (.seq (regOf 1 C33) (.seq (.block 0 (.seq (.block 4 (.seq (.block 3 (.seq (.block 2 (.seq (.block 1 (.seq (.seq (.seq (regOf 2 C33) (.cond (.tmp 5) (.exit 1) .skip)) (.seq (.seq (regOf 3 C33) (.cond (.tmp 8) (.exit 2) .skip)) (.seq (regOf 4 C33) (.cond (.tmp 11) (.exit 3) .skip)))) (.exit 4))) (.seq (regOf 5 C33) (.exit 0)))) (.seq (regOf 6 C33) (.exit 0)))) (regOf 7 C33))) (.seq (regOf 8 C33) (.exit 0)))) (.seq (regOf 9 C33) .ret))) := by kernel_rfl
set_option maxHeartbeats 1000000 in
theorem at_in (n : Nat) (w : World) (y : Nat) : CallsIn Fence.wide n Try.prog 33 #[.int .i64 y] w fun e w' => e = .returned (.agg #[.int .u8 (landK y), .int .u8 (0 : Nat)]) ∧ Below w.heap.size w w' := by
  refine callsIn_of_wp Try.func33 rfl trivial ?_
  show C33.wpIn _ _ _ _ _ _
  rw [C33_eq]
  refine wpIn_seq (at0 n w y _ _ ⟨by simp [Try.ntmps33], rfl, by simp [Try.ntmps33], rfl⟩ ?_)
  intro a1 hs1
  have hH : Has w [(w.heap.size, o2 32 0 0)] (w.alloc (.cells #[.int .u8 0, .int .u8 0] 32)) := (Has.start w).alloc (o2 32 0 0)
  generalize w.alloc (.cells #[.int .u8 0, .int .u8 0] 32) = W1 at hs1 hH ⊢
  obtain ⟨R, hR⟩ : ∃ R, R = w.heap.size := ⟨_, rfl⟩
  rw [← hR] at hs1 hH
  refine wpIn_seq (at1 n W1 y R _ a1 hs1 ?_)
  intro a2 hs2
  have hH2 : Has w [(W1.heap.size, o2 32 2 0), (R, o2 32 0 0)] (W1.alloc (.cells #[.int .u8 2, .int .u8 0] 32)) := hH.alloc (o2 32 2 0)
  generalize W1.alloc (.cells #[.int .u8 2, .int .u8 0] 32) = W2 at hs2 hH2 ⊢
  generalize W1.heap.size = D at hs2 hH2
  have fin : ∀ k a w', SG [(2, .pointer (some ⟨R, 0, none⟩)), (3, .pointer (some ⟨D, 0, none⟩))] 19 (Has w [(D, o2 32 k 0), (R, o2 32 0 0)]) a w' → landK y = k →
      (Code.seq (regOf 9 C33) .ret).wpIn Fence.wide n Try.prog (bodyPost Try.prog Try.f33 fun e w' => e = .returned (.agg #[.int .u8 (landK y), .int .u8 (0 : Nat)]) ∧ Below w.heap.size w w') a w' := by
    intro k a w' h hk
    refine wpIn_seq (at9 n (G1 := Has w [(D, o2 32 k 0), (R, o2 32 k 0)]) R D k 0 (fun w hh => hh.cell List.mem_cons_self rfl) (fun w hh => hh.cell List.mem_cons_self rfl) (fun w hh => ⟨⟨_, hh.swap.cell List.mem_cons_self rfl⟩, ⟨_, hh.swap.cell List.mem_cons_self rfl⟩⟩) (fun w hh => ⟨hh.swap.unfrozen List.mem_cons_self _, hh.swap.unfrozen List.mem_cons_self _⟩)
      (fun w hh => ((hh.swap.o2set0 k).o2set1 0).swap) _ a w' h ?_)
    intro a3 w3 h3
    refine wpIn_ret ⟨h3.defers, _, results_cell_row rfl _ _ R 32 _ (0, 0) _ (by rw [Array.getD_eq_getD_getElem?, h3.kn (2, .pointer (some ⟨R, 0, none⟩)) (by simp)]) (h3.wp.blk (R, o2 32 k 0) (by simp)) Try.underlying32 rfl (by kernel_rfl), by rw [hk], h3.wp.bel⟩
  have fin8 : ∀ k a w', SG [(2, .pointer (some ⟨R, 0, none⟩)), (3, .pointer (some ⟨D, 0, none⟩))] 19 (Has w [(D, o2 32 k 0), (R, o2 32 0 0)]) a w' → landK y = k → ∀ Q : Exit → Act → World → Prop, (∀ a w', SG [(2, .pointer (some ⟨R, 0, none⟩)), (3, .pointer (some ⟨D, 0, none⟩))] 19 (Has w [(D, o2 32 k 0), (R, o2 32 0 0)]) a w' → Q (.exit 0) a w') →
      (Code.seq (regOf 8 C33) (.exit 0)).wpIn Fence.wide n Try.prog Q a w' := by
    intro k a w' h hk Q hQ
    refine wpIn_seq (at8 n (G := Has w [(D, o2 32 k 0), (R, o2 32 0 0)]) (G1 := Has w [(D, o2 32 k 0), (R, o2 32 0 0)]) (Has.stable _ _) R D (fun w hh => ⟨_, hh.cell (j := 1) List.mem_cons_self rfl⟩) (fun w hh => hh.unfrozen List.mem_cons_self 1) (fun w hh => hh.o2set1 0) _ a w' h ?_)
    intro a3 w3 h3
    exact wpIn_exit (hQ a3 w3 h3)
  refine wpIn_seq (wpIn_block (wpIn_seq (wpIn_block (wpIn_seq (wpIn_block (wpIn_seq (wpIn_block (wpIn_seq (wpIn_block (wpIn_seq (wpIn_seq (wpIn_seq ?_))))))))))))
  refine at2 n W2 y R D _ a2 hs2 ?_
  intro a3 hs3
  by_cases e0 : y = 0
  · refine wpIn_cond (t := true) (by rw [eval_tmp, hs3.kn (5, .bool ((y : Int) == 0)) (by simp), e0]; rfl) (wpIn_exit ?_)
    show (Code.seq (regOf 5 C33) (.exit 0)).wpIn Fence.wide n Try.prog _ a3 W2
    refine wpIn_seq (at5 n (G1 := Has w [(D, o2 32 1 0), (R, o2 32 0 0)]) (Has.stable _ _) R D (fun w hh => ⟨_, hh.cell (j := 0) List.mem_cons_self rfl⟩) (fun w hh => hh.unfrozen List.mem_cons_self 0) (fun w hh => hh.o2set0 1) _ a3 W2 ((hs3.sub (by simp)).sg hH2) ?_)
    intro a4 w4 h4
    refine wpIn_exit ?_
    exact fin 1 a4 w4 h4 (by unfold landK; rw [if_pos e0])
  refine wpIn_cond (t := false) (by rw [eval_tmp, hs3.kn (5, .bool ((y : Int) == 0)) (by simp)]; simp; omega) (wpIn_skip ?_)
  refine wpIn_seq (wpIn_seq ?_)
  by_cases e1 : 15 < y
  · refine at3t n W2 y R D e1 _ a3 (hs3.sub (by simp)) ?_
    intro a4 hs4
    refine wpIn_cond (t := true) (by rw [eval_tmp]; exact hs4.kn (8, .bool true) (by simp)) (wpIn_exit ?_)
    show (Code.seq (regOf 6 C33) (.exit 0)).wpIn Fence.wide n Try.prog _ a4 W2
    refine wpIn_seq (at6 n (G1 := Has w [(D, o2 32 0 0), (R, o2 32 0 0)]) (Has.stable _ _) R D (fun w hh => ⟨_, hh.cell (j := 0) List.mem_cons_self rfl⟩) (fun w hh => hh.unfrozen List.mem_cons_self 0) (fun w hh => hh.o2set0 0) _ a4 W2 ((hs4.sub (by simp)).sg hH2) ?_)
    intro a5 w5 h5
    refine wpIn_exit ?_
    exact fin 0 a5 w5 h5 (by unfold landK; rw [if_neg e0, if_pos e1])
  refine at3f n W2 y R D e1 _ a3 (hs3.sub (by simp)) ?_
  intro a4 hs4
  refine wpIn_cond (t := false) (by rw [eval_tmp]; exact hs4.kn (8, .bool false) (by simp)) (wpIn_skip ?_)
  refine wpIn_seq ?_
  by_cases e2 : 11 < y
  · refine at4t n W2 y R D e2 _ a4 (hs4.sub (by simp)) ?_
    intro a5 hs5
    refine wpIn_cond (t := true) (by rw [eval_tmp]; exact hs5.kn (11, .bool true) (by simp)) (wpIn_exit ?_)
    show (regOf 7 C33).wpIn Fence.wide n Try.prog _ a5 W2
    refine at7 n (G1 := Has w [(D, o2 32 3 0), (R, o2 32 0 0)]) (Has.stable _ _) R D (fun w hh => ⟨_, hh.cell (j := 0) List.mem_cons_self rfl⟩) (fun w hh => hh.unfrozen List.mem_cons_self 0) (fun w hh => hh.o2set0 3) _ a5 W2 ((hs5.sub (by simp)).sg hH2) ?_
    intro a6 w6 h6
    show (Code.seq (regOf 8 C33) (.exit 0)).wpIn Fence.wide n Try.prog _ a6 w6
    have hk : landK y = 3 := by unfold landK; rw [if_neg e0, if_neg e1, if_pos e2]
    exact fin8 3 a6 w6 h6 hk _ fun a w' h => fin 3 a w' h hk
  · refine at4f n W2 y R D e2 _ a4 (hs4.sub (by simp)) ?_
    intro a5 hs5
    refine wpIn_cond (t := false) (by rw [eval_tmp]; exact hs5.kn (11, .bool false) (by simp)) (wpIn_skip ?_)
    refine wpIn_exit ?_
    show (Code.seq (regOf 8 C33) (.exit 0)).wpIn Fence.wide n Try.prog _ a5 W2
    have hk : landK y = 2 := by unfold landK; rw [if_neg e0, if_neg e1, if_neg e2]
    exact fin8 2 a5 W2 ((hs5.sub (by simp)).sg hH2) hk _ fun a w' h => fin 2 a w' h hk
theorem C34_eq : C34 = .seq (regOf 0 C34) (.seq (.seq (regOf 1 C34) (.cond (.tmp 4) (.seq (regOf 2 C34) .ret) .skip)) (.seq (regOf 3 C34) .ret)) := by kernel_rfl
theorem lit_in (n : Nat) (w : World) (y : Nat) : CallsIn Fence.wide n Try.prog 34 #[.int .i64 y] w fun e w' => e = .returned (.agg #[.int .u8 (landS y), .int .u8 (0 : Nat)]) ∧ Below w.heap.size w w' := by
  refine callsIn_of_wp Try.func34 rfl trivial ?_
  show C34.wpIn _ _ _ _ _ _
  rw [C34_eq]
  refine wpIn_seq (li0 n w y _ _ ⟨by simp [Try.ntmps34], rfl, by simp [Try.ntmps34], rfl⟩ ?_)
  intro a1 hs1
  have hH : Has w [(w.heap.size, o2 37 0 0)] (w.alloc (.cells #[.int .u8 0, .int .u8 0] 37)) := (Has.start w).alloc (o2 37 0 0)
  generalize w.alloc (.cells #[.int .u8 0, .int .u8 0] 37) = W1 at hs1 hH ⊢
  obtain ⟨R, hR⟩ : ∃ R, R = w.heap.size := ⟨_, rfl⟩
  rw [← hR] at hs1 hH
  have ret : ∀ a w', SG [(2, .pointer (some ⟨R, 0, none⟩))] 7 (Has w [(R, o2 37 (landS y) 0)]) a w' → bodyPost Try.prog Try.f34 (fun e w' => e = .returned (.agg #[.int .u8 (landS y), .int .u8 (0 : Nat)]) ∧ Below w.heap.size w w') .ret a w' := fun a w' h =>
    ⟨h.defers, _, results_cell_row rfl _ _ R 37 _ (0, 0) _ (by rw [Array.getD_eq_getD_getElem?, h.kn (2, .pointer (some ⟨R, 0, none⟩)) (by simp)]) (h.wp.blk (R, o2 37 (landS y) 0) (by simp)) Try.underlying37 rfl (by kernel_rfl), rfl, h.wp.bel⟩
  refine wpIn_seq (wpIn_seq ?_)
  by_cases e1 : 15 < y
  · refine li1t n W1 y R e1 _ a1 hs1 ?_
    intro a2 hs2
    refine wpIn_cond (t := true) (by rw [eval_tmp]; exact hs2.kn (4, .bool true) (by simp)) ?_
    refine wpIn_seq (li2 n (G1 := Has w [(R, o2 37 15 0)]) R (fun w hh => ⟨⟨_, hh.cell List.mem_cons_self rfl⟩, ⟨_, hh.cell List.mem_cons_self rfl⟩⟩) (fun w hh => ⟨hh.unfrozen List.mem_cons_self _, hh.unfrozen List.mem_cons_self _⟩) (fun w hh => (hh.o2set0 15).o2set1 0) _ a2 W1 ((hs2.sub (by simp)).sg hH) ?_)
    intro a3 w3 h3
    refine wpIn_ret (ret a3 w3 ?_)
    rw [show landS y = 15 from if_pos e1]; exact h3
  · refine li1f n W1 y R e1 _ a1 hs1 ?_
    intro a2 hs2
    refine wpIn_cond (t := false) (by rw [eval_tmp]; exact hs2.kn (4, .bool false) (by simp)) (wpIn_skip ?_)
    refine wpIn_seq (li3 n (G1 := Has w [(R, o2 37 0 0)]) R (fun w hh => ⟨⟨_, hh.cell List.mem_cons_self rfl⟩, ⟨_, hh.cell List.mem_cons_self rfl⟩⟩) (fun w hh => ⟨hh.unfrozen List.mem_cons_self _, hh.unfrozen List.mem_cons_self _⟩) (fun w hh => (hh.o2set0 0).o2set1 0) _ a2 W1 ((hs2.sub (by simp)).sg hH) ?_)
    intro a3 w3 h3
    refine wpIn_ret (ret a3 w3 ?_)
    rw [show landS y = 0 from if_neg e1]; exact h3
theorem C21_eq : C21 = .seq (regOf 0 C21) (.seq (.seq (regOf 1 C21) (.cond (.tmp 5) (.seq (regOf 2 C21) .ret) .skip)) (.seq (regOf 3 C21) .ret)) := by kernel_rfl
theorem lcell_in (n : Nat) (w : World) (X : Int) (y : Nat) (Z : Int) (h1 : -1048576 ≤ X) (h2 : X < 1048576) (h3 : -1048576 ≤ Z) (h4 : Z < 1048576) (h6 : y < 64) : CallsIn Fence.wide n Try.prog 21 #[.agg #[.int .i64 X, .int .i64 y, .int .i64 Z]] w fun e w' => e = .returned (.agg #[.int .u8 (landK y), .int .u8 (0 : Nat)]) ∧ Below w.heap.size w w' := by
  refine callsIn_of_wp Try.func21 rfl trivial ?_
  show C21.wpIn _ _ _ _ _ _
  rw [C21_eq]
  refine wpIn_seq (lcel0 n w X y Z _ _ ⟨by simp [Try.ntmps21], rfl, by simp [Try.ntmps21], rfl⟩ ?_)
  intro a1 hs1
  have hH := (Has.start w).alloc (.cells #[.int .i64 X, .int .i64 y, .int .i64 Z] 48)
  have hH2 : Has w [((w.alloc (.cells #[.int .i64 X, .int .i64 y, .int .i64 Z] 48)).heap.size, o2 32 0 0), (w.heap.size, .cells #[.int .i64 X, .int .i64 y, .int .i64 Z] 48 (0, 0))] _ := hH.alloc (o2 32 0 0)
  obtain ⟨S, hS⟩ : ∃ S, S = w.heap.size := ⟨_, rfl⟩
  obtain ⟨R, hR⟩ : ∃ R, R = (w.alloc (.cells #[.int .i64 X, .int .i64 y, .int .i64 Z] 48)).heap.size := ⟨_, rfl⟩
  rw [← hR] at hH2 hs1
  rw [← hS] at hH2 hs1
  refine wpIn_seq (wpIn_seq (lcel1 n (Has.stable _ _) S R X y Z (fun w hh => hh.swap.cell List.mem_cons_self rfl) (fun w hh => hh.swap.cell List.mem_cons_self rfl) (fun w hh => hh.swap.cell List.mem_cons_self rfl) (fun m w _ => may_in m w X y Z h1 h2 h3 h4 (by omega) (by omega)) _ a1 _ (hs1.sg hH2) ?_))
  intro a2 w2 h2'
  refine wpIn_cond (t := false) (by rw [eval_tmp]; exact h2'.kn (5, .bool false) (by simp)) (wpIn_skip ?_)
  refine wpIn_seq (lcel3 n (G1 := Has w [(R, o2 32 (landK y) 0), (S, .cells #[.int .i64 X, .int .i64 y, .int .i64 Z] 48 (0, 0))]) (Has.stable _ _) S R y (landK y) 0 (fun w hh => hh.swap.cell List.mem_cons_self rfl) (fun m w _ => at_in m w y)
    (fun w hh => ⟨⟨_, hh.cell List.mem_cons_self rfl⟩, ⟨_, hh.cell List.mem_cons_self rfl⟩⟩) (fun w hh => ⟨hh.unfrozen List.mem_cons_self _, hh.unfrozen List.mem_cons_self _⟩) (fun w hh => (hh.o2set0 _).o2set1 0) _ a2 w2 (h2'.sub (by simp)) ?_)
  intro a3 w3 h3'
  exact wpIn_ret ⟨h3'.defers, _, results_cell_row rfl _ _ R 32 _ (0, 0) _ (by rw [Array.getD_eq_getD_getElem?, h3'.kn (2, .pointer (some ⟨R, 0, none⟩)) (by simp)]) (h3'.wp.blk (R, o2 32 (landK y) 0) (by simp)) Try.underlying32 rfl (by kernel_rfl), rfl, h3'.wp.bel⟩
theorem C22_eq : C22 = .seq (regOf 0 C22) (.seq (.seq (regOf 1 C22) (.cond (.tmp 5) (.seq (regOf 2 C22) .ret) .skip)) (.seq (regOf 3 C22) .ret)) := by kernel_rfl
theorem llight_in (n : Nat) (w : World) (X : Int) (y : Nat) (Z : Int) (h1 : -1048576 ≤ X) (h2 : X < 1048576) (h3 : -1048576 ≤ Z) (h4 : Z < 1048576) (h6 : y < 64) : CallsIn Fence.wide n Try.prog 22 #[.agg #[.int .i64 X, .int .i64 y, .int .i64 Z]] w fun e w' => e = .returned (.agg #[.int .u8 (landS y), .int .u8 (0 : Nat)]) ∧ Below w.heap.size w w' := by
  refine callsIn_of_wp Try.func22 rfl trivial ?_
  show C22.wpIn _ _ _ _ _ _
  rw [C22_eq]
  refine wpIn_seq (llit0 n w X y Z _ _ ⟨by simp [Try.ntmps22], rfl, by simp [Try.ntmps22], rfl⟩ ?_)
  intro a1 hs1
  have hH := (Has.start w).alloc (.cells #[.int .i64 X, .int .i64 y, .int .i64 Z] 48)
  have hH2 : Has w [((w.alloc (.cells #[.int .i64 X, .int .i64 y, .int .i64 Z] 48)).heap.size, o2 37 0 0), (w.heap.size, .cells #[.int .i64 X, .int .i64 y, .int .i64 Z] 48 (0, 0))] _ := hH.alloc (o2 37 0 0)
  obtain ⟨S, hS⟩ : ∃ S, S = w.heap.size := ⟨_, rfl⟩
  obtain ⟨R, hR⟩ : ∃ R, R = (w.alloc (.cells #[.int .i64 X, .int .i64 y, .int .i64 Z] 48)).heap.size := ⟨_, rfl⟩
  rw [← hR] at hH2 hs1
  rw [← hS] at hH2 hs1
  refine wpIn_seq (wpIn_seq (llit1 n (Has.stable _ _) S R X y Z (fun w hh => hh.swap.cell List.mem_cons_self rfl) (fun w hh => hh.swap.cell List.mem_cons_self rfl) (fun w hh => hh.swap.cell List.mem_cons_self rfl) (fun m w _ => may_in m w X y Z h1 h2 h3 h4 (by omega) (by omega)) _ a1 _ (hs1.sg hH2) ?_))
  intro a2 w2 h2'
  refine wpIn_cond (t := false) (by rw [eval_tmp]; exact h2'.kn (5, .bool false) (by simp)) (wpIn_skip ?_)
  refine wpIn_seq (llit3 n (G1 := Has w [(R, o2 37 (landS y) 0), (S, .cells #[.int .i64 X, .int .i64 y, .int .i64 Z] 48 (0, 0))]) (Has.stable _ _) S R y (landS y) 0 (fun w hh => hh.swap.cell List.mem_cons_self rfl) (fun m w _ => lit_in m w y)
    (fun w hh => ⟨⟨_, hh.cell List.mem_cons_self rfl⟩, ⟨_, hh.cell List.mem_cons_self rfl⟩⟩) (fun w hh => ⟨hh.unfrozen List.mem_cons_self _, hh.unfrozen List.mem_cons_self _⟩) (fun w hh => (hh.o2set0 _).o2set1 0) _ a2 w2 (h2'.sub (by simp)) ?_)
  intro a3 w3 h3'
  exact wpIn_ret ⟨h3'.defers, _, results_cell_row rfl _ _ R 37 _ (0, 0) _ (by rw [Array.getD_eq_getD_getElem?, h3'.kn (2, .pointer (some ⟨R, 0, none⟩)) (by simp)]) (h3'.wp.blk (R, o2 37 (landS y) 0) (by simp)) Try.underlying37 rfl (by kernel_rfl), rfl, h3'.wp.bel⟩
theorem land_kind : ∀ y, y < 64 → (K.may (landK y : Nat) (0 : Nat) && K.clear (landK y : Nat)) = decide (15 < y) ∧ (K.lamp (landK y : Nat) (0 : Nat)).toNat = 0 := by decide
/-! ### GlowLand -/
def landA (X Z : Nat) (m : Nat) : Int := if m % 2 = 0 then (landK (m / 2 / X / Z) : Nat) else 0
theorem kd_land (X Z s : Nat) : kd (landA X Z) s = landK (s / X / Z) := by
  rw [show kd (landA X Z) s = (landA X Z (s * 2)).toNat from rfl]; unfold landA; rw [if_pos (by omega), Int.toNat_natCast, show s * 2 / 2 = s from by omega]
theorem lv_land (X Z s : Nat) : lv (landA X Z) s = 0 := by
  rw [show lv (landA X Z) s = (landA X Z (s * 2 + 1)).toNat from rfl]; unfold landA; rw [if_neg (by omega)]; rfl
structure FilledL (N : Nat) (A : Nat → Int) (j : Nat) (c : Array Value) : Prop where
  size : c.size = N * 2
  row : ∀ m, m < j * 2 → c[m]? = some (.int .u8 (A m))
theorem FilledL.set {N : Nat} {A : Nat → Int} {j : Nat} {c : Array Value} (h : FilledL N A j c) (hj : j < N) {k v : Nat} (hk : A (j * 2) = (k : Int)) (hv : A (j * 2 + 1) = (v : Int)) : FilledL N A (j + 1) ((c.setIfInBounds (j * 2) (.int .u8 k)).setIfInBounds (j * 2 + 1) (.int .u8 v)) where
  size := by simp [h.size]
  row := fun m hm => by
    have hs := h.size
    simp only [Array.getElem?_setIfInBounds, Array.size_setIfInBounds]
    by_cases e1 : m = j * 2 + 1
    · rw [if_pos e1.symm, if_pos (by omega), e1, hv]
    · rw [if_neg (Ne.symm e1)]
      by_cases e2 : m = j * 2
      · rw [if_pos e2.symm, if_pos (by omega), e2, hk]
      · rw [if_neg (Ne.symm e2)]; exact h.row m (by omega)
noncomputable def Lp11 : Code := .seq (.seq (regOf 4 C11) (.cond (.tmp 35) .skip (.exit 0))) (.seq (.block 1 (regOf 6 C11)) (regOf 5 C11))
noncomputable def Lq11 : Code := .seq (.seq (regOf 11 C11) (.cond (.tmp 88) .skip (.exit 2))) (.seq (.block 3 (.seq (regOf 13 C11) (.cond (.tmp 123) (.seq (regOf 14 C11) .ret) .skip))) (regOf 12 C11))
theorem C11_eq : C11 = .seq (regOf 0 C11) (.seq (regOf 1 C11) (.seq (regOf 2 C11) (.seq (.seq (regOf 3 C11) (.block 0 (.loop Lp11))) (.seq (regOf 7 C11) (.seq (.seq (regOf 8 C11) (.cond (.tmp 84) (.seq (regOf 9 C11) .ret) .skip)) (.seq (.seq (regOf 10 C11) (.block 2 (.loop Lq11))) (.seq (regOf 15 C11) .ret))))))) := by kernel_rfl
/-- What is reckoned of an index. -/
theorem numL {X Z N i : Nat} (hX : 1 ≤ X ∧ X ≤ 4) (hZ : 1 ≤ Z ∧ Z ≤ 4) (hNe : N = X * 64 * Z) (hi : i < N) {px pz : Int} :
    i % X < 4 ∧ i / X % Z < 4 ∧ i / X / Z < 64 ∧ i ≤ 1024 ∧ (-1048576 ≤ Int.tmod px 1000 + (i % X : Nat) ∧ Int.tmod px 1000 + (i % X : Nat) < 1048576) ∧ (-1048576 ≤ Int.tmod pz 1000 + (i / X % Z : Nat) ∧ Int.tmod pz 1000 + (i / X % Z : Nat) < 1048576) := by
  have h0 := hi
  rw [hNe] at hi
  obtain ⟨h1, h2, h3⟩ := Glow.dec_lt hi
  have h4 : X * 64 * Z ≤ 4 * 64 * 4 := Nat.mul_le_mul (Nat.mul_le_mul hX.2 (Nat.le_refl _)) hZ.2
  have b1 := Int.tmod_lt_of_pos px (show (0 : Int) < 1000 by decide)
  have b2 := Int.lt_tmod_of_pos px (show (0 : Int) < 1000 by decide)
  have b3 := Int.tmod_lt_of_pos pz (show (0 : Int) < 1000 by decide)
  have b4 := Int.lt_tmod_of_pos pz (show (0 : Int) < 1000 by decide)
  generalize i % X = x at *
  generalize i / X % Z = z at *
  generalize i / X / Z = y at *
  generalize Int.tmod px 1000 = rx at *
  generalize Int.tmod pz 1000 = rz at *
  omega
section
variable {W0 : World} {X Z N B S g2 : Nat} {px py pz : Int}
abbrev bsL (X Z N B S g2 : Nat) (px py pz : Int) (c : Array Value) : List (Nat × Obj) := [(g2, .cells c 32 (0, 0)), (B, .cells #[.int .i64 X, .int .i64 64, .int .i64 Z, .slice (some ⟨g2, 0, none⟩) N N] 24 (0, 0)), (S, .cells #[.int .i64 px, .int .i64 py, .int .i64 pz] 48 (0, 0))]
theorem cbL {c : Array Value} {bs : List (Nat × Obj)} (hm : ∀ q ∈ bsL X Z N B S g2 px py pz c, q ∈ bs) {w : World} (hh : Has W0 bs w) {k : Nat} {v : Value} (hv : (#[.int .i64 X, .int .i64 64, .int .i64 Z, .slice (some ⟨g2, 0, none⟩) N N] : Array Value)[k]? = some v) : w.cell? ⟨B, k, none⟩ = some v := hh.cell (t := 24) (fr := (0, 0)) (hm _ (by simp)) hv
theorem csL {c : Array Value} {bs : List (Nat × Obj)} (hm : ∀ q ∈ bsL X Z N B S g2 px py pz c, q ∈ bs) {w : World} (hh : Has W0 bs w) {k : Nat} {v : Value} (hv : (#[.int .i64 px, .int .i64 py, .int .i64 pz] : Array Value)[k]? = some v) : w.cell? ⟨S, k, none⟩ = some v := hh.cell (t := 48) (fr := (0, 0)) (hm _ (by simp)) hv
abbrev A8l (S B i : Nat) : List (Nat × Value) := [(3, .pointer (some ⟨S, 0, none⟩)), (7, .pointer (some ⟨B, 0, none⟩)), (8, .int .i64 i)]
set_option maxHeartbeats 1000000 in
theorem land_loop (n : Nat) (hX : 1 ≤ X ∧ X ≤ 4) (hZ : 1 ≤ Z ∧ Z ≤ 4) (hNe : N = X * 64 * Z) {c : Array Value} (f0 : FilledL N (landA X Z) 0 c) (a : Act) (w : World) (Q : Exit → Act → World → Prop) (ha : SG (A8l S B 0) 125 (Has W0 (bsL X Z N B S g2 px py pz c)) a w)
    (hQ : ∀ c a w, FilledL N (landA X Z) N c → SG [(3, .pointer (some ⟨S, 0, none⟩)), (7, .pointer (some ⟨B, 0, none⟩))] 125 (Has W0 (bsL X Z N B S g2 px py pz c)) a w → Q .normal a w) : (Code.block 0 (.loop Lp11)).wpIn Fence.wide n Try.prog Q a w := by
  refine wpIn_block (wpIn_loop (fun a w => ∃ i c, i ≤ N ∧ FilledL N (landA X Z) i c ∧ SG (A8l S B i) 125 (Has W0 (bsL X Z N B S g2 px py pz c)) a w) (fun a _ => N - slotN 8 a) ⟨0, _, Nat.zero_le _, f0, ha⟩ ?_)
  rintro a w ⟨i, c, hin, f0, ha⟩
  have e5 := ha.slot (t := 8) (v := i) (k := .i64) (by simp)
  have hG := ha.wp
  have same : ∀ {c : Array Value}, ∀ q ∈ bsL X Z N B S g2 px py pz c, q ∈ bsL X Z N B S g2 px py pz c := fun _ h => h
  unfold Lp11
  refine wpIn_seq (wpIn_seq (ld4 n w S B g2 N i (cbL same hG rfl) _ a ha.sr ?_))
  intro a1 h1
  have h1 := h1.sg hG
  refine wpIn_cond (t := decide (i < N)) (by rw [eval_tmp]; exact h1.kn (35, _) (by simp)) ?_
  by_cases hlt : i < N
  · rw [decide_eq_true hlt]
    refine wpIn_skip (wpIn_seq (wpIn_block ?_))
    obtain ⟨k1, k2, k3, k4, k5, k6⟩ := numL hX hZ hNe hlt (px := px) (pz := pz)
    refine ld6 n (G1 := Has W0 (bsL X Z N B S g2 px py pz ((c.setIfInBounds (i * 2) (.int .u8 (landK (i / X / Z)))).setIfInBounds (i * 2 + 1) (.int .u8 (0 : Nat))))) (Has.stable _ _) S B g2 N i X Z (i % X) (i / X) (i / X % Z) (i / X / Z) px pz (Int.tmod px 1000) (Int.tmod pz 1000) (Int.tmod px 1000 + (i % X : Nat)) (Int.tmod pz 1000 + (i / X % Z : Nat))
      (by omega) (by omega) (tmodL _ _) (wdivL (by omega)) (tmodL _ _) (wdivL (by have := Nat.div_le_self i X; omega)) rfl rfl (IntWalk.i64_in _ (by omega)) (IntWalk.i64_in _ (by omega)) (landK (i / X / Z)) 0 hlt
      (fun w hh => cbL same hh rfl) (fun w hh => csL same hh rfl) (fun w hh => cbL same hh rfl) (fun w hh => cbL same hh rfl) (fun w hh => csL same hh rfl)
      (fun m w _ => lcell_in m w _ _ _ k5.1 k5.2 k6.1 k6.2 k3)
      (fun w hh => ⟨⟨_, hh.cell List.mem_cons_self (Array.getElem?_eq_getElem (show i * 2 < c.size by rw [f0.size]; omega))⟩, ⟨_, hh.cell List.mem_cons_self (Array.getElem?_eq_getElem (show i * 2 + 1 < c.size by rw [f0.size]; omega))⟩⟩)
      (fun w hh => ⟨hh.unfrozen List.mem_cons_self _, hh.unfrozen List.mem_cons_self _⟩) (fun w hh => (hh.set (m := i * 2) (.int .u8 (landK (i / X / Z)))).set (m := i * 2 + 1) (.int .u8 (0 : Nat))) _ a1 w (h1.sub (by simp)) ?_
    intro a3 w3 h3
    show (regOf 5 C11).wpIn _ _ _ _ _ _
    have hG3 := h3.wp
    refine ld5 n w3 S B i (by omega) _ a3 h3.sr ?_
    intro a6 h6
    have h6 : SG (A8l S B (i + 1)) 125 _ a6 w3 := h6.sg hG3
    exact ⟨⟨i + 1, _, hlt, f0.set hlt (by unfold landA; rw [if_pos (by omega), show i * 2 / 2 = i from by omega]) (by unfold landA; rw [if_neg (by omega)]; rfl), h6⟩, by rw [e5, h6.slot (t := 8) (v := i + 1) (k := .i64) (by simp)]; omega⟩
  · rw [decide_eq_false hlt]
    obtain rfl : i = N := by omega
    exact wpIn_exit (hQ c a1 w f0 (h1.sub (by simp)))
abbrev A11l (S B r N i : Nat) : List (Nat × Value) := [(3, .pointer (some ⟨S, 0, none⟩)), (7, .pointer (some ⟨B, 0, none⟩)), (9, .slice (some ⟨r, 0, none⟩) N N), (11, .int .i64 i)]
set_option maxHeartbeats 1000000 in
theorem land_loop2 (n : Nat) {G : World → Prop} (hS : Stable G) (hX : 1 ≤ X ∧ X ≤ 4) (hZ : 1 ≤ Z ∧ Z ≤ 4) (hNe : N = X * 64 * Z) {r : Nat}
    (b0 : ∀ w, G w → w.cell? ⟨B, 0, none⟩ = some (.int .i64 X)) (b2 : ∀ w, G w → w.cell? ⟨B, 2, none⟩ = some (.int .i64 Z)) (s0 : ∀ w, G w → w.cell? ⟨S, 0, none⟩ = some (.int .i64 px)) (s2 : ∀ w, G w → w.cell? ⟨S, 2, none⟩ = some (.int .i64 pz))
    (a1 : ∀ i, i < N → ∀ w, G w → w.cell? ⟨r, i * 2, none⟩ = some (.int .u8 (landS (i / X / Z)))) (a2 : ∀ i, i < N → ∀ w, G w → w.cell? ⟨r, i * 2 + 1, none⟩ = some (.int .u8 (0 : Nat)))
    (a : Act) (w : World) (Q : Exit → Act → World → Prop) (ha : SG (A11l S B r N 0) 125 G a w) (hQ : ∀ a w, SG [] 125 G a w → Q .normal a w) : (Code.block 2 (.loop Lq11)).wpIn Fence.wide n Try.prog Q a w := by
  refine wpIn_block (wpIn_loop (fun a w => ∃ i, i ≤ N ∧ SG (A11l S B r N i) 125 G a w) (fun a _ => N - slotN 11 a) ⟨0, Nat.zero_le _, ha⟩ ?_)
  rintro a w ⟨i, hin, ha⟩
  have e5 := ha.slot (t := 11) (v := i) (k := .i64) (by simp)
  have hG := ha.wp
  unfold Lq11
  refine wpIn_seq (wpIn_seq (ld11 n w S B r N i _ a ha.sr ?_))
  intro a1' h1
  have h1 := h1.sg hG
  refine wpIn_cond (t := decide (i < N)) (by rw [eval_tmp]; exact h1.kn (88, _) (by simp)) ?_
  by_cases hlt : i < N
  · rw [decide_eq_true hlt]
    refine wpIn_skip (wpIn_seq (wpIn_block ?_))
    obtain ⟨k1, k2, k3, k4, k5, k6⟩ := numL hX hZ hNe hlt (px := px) (pz := pz)
    refine wpIn_seq (ld13 n hS S B r N i X Z (i % X) (i / X) (i / X % Z) (i / X / Z) px pz (Int.tmod px 1000) (Int.tmod pz 1000) (Int.tmod px 1000 + (i % X : Nat)) (Int.tmod pz 1000 + (i / X % Z : Nat))
      (by omega) (by omega) (tmodL _ _) (wdivL (by omega)) (tmodL _ _) (wdivL (by have := Nat.div_le_self i X; omega)) rfl rfl (IntWalk.i64_in _ (by omega)) (IntWalk.i64_in _ (by omega)) (landS (i / X / Z)) 0 hlt
      (a1 i hlt) (a2 i hlt) s0 b0 b2 s2 (fun m w _ => llight_in m w _ _ _ k5.1 k5.2 k6.1 k6.2 k3) _ a1' w (h1.sub (by simp)) ?_)
    intro a3 w3 h3
    have hG3 := h3.wp
    refine wpIn_cond (t := false) (by rw [eval_tmp]; exact h3.kn (123, .bool false) (by simp)) (wpIn_skip ?_)
    show (regOf 12 C11).wpIn _ _ _ _ _ _
    refine ld12 n w3 S B r N i (by omega) _ a3 (h3.sub (by simp)).sr ?_
    intro a6 h6
    have h6 : SG (A11l S B r N (i + 1)) 125 G a6 w3 := h6.sg hG3
    exact ⟨⟨i + 1, hlt, h6⟩, by rw [e5, h6.slot (t := 11) (v := i + 1) (k := .i64) (by simp)]; omega⟩
  · rw [decide_eq_false hlt]
    exact wpIn_exit (hQ a1' w (h1.sub (by simp)))
end
/-- Light where all above a height is clear, and nothing else is. -/
theorem land_light {X Z N : Nat} (hX : 1 ≤ X) (hZ : 1 ≤ Z) (hNe : N = X * 64 * Z) {cl : Nat → Bool} {lm : Nat → Nat} (hc : ∀ i, i < N → cl i = decide (15 < i / X / Z)) (hl : ∀ i, lm i = 0) {i : Nat} (hi : i < N) :
    (skyL X 64 Z cl).getD i 0 = landS (i / X / Z) ∧ (lampL X 64 Z cl lm).getD i 0 = 0 := by
  have sf := sky_fix (cl := cl) hNe.symm
  have lf := lamp_fix (cl := cl) (lm := lm) hNe.symm (fun i => by rw [hl]; omega)
  have hs : ∀ i, i < N → ∀ s ∈ Glow.sides X 64 Z i, s < N := fun i hi s hs => by have := (Glow.sides_sym X 64 Z i s (by rw [← hNe]; exact hi) hs).1; rwa [← hNe] at this
  constructor
  · by_cases e : 15 < i / X / Z
    · have k1 : (skyL X 64 Z cl).getD i 0 = _ := sf.2 i hi
      have k2 := sf.1 i
      have k3 : skyS cl (X * Z) 64 i = 15 := by
        unfold skyS
        rw [if_pos]
        refine (skyS_iff hNe.symm hX hZ hi).1 fun m hm => ?_
        rw [hc _ hm, decide_eq_true_eq, Nat.div_div_eq_div_mul, Nat.add_mul_div_right _ _ (Nat.mul_pos hX hZ), ← Nat.div_div_eq_div_mul]
        omega
      rw [if_pos (by rw [hc i hi]; exact decide_eq_true e), k3] at k1
      have k4 : 15 ≤ (skyL X 64 Z cl).getD i 0 := by rw [k1]; exact Nat.le_max_left _ _
      rw [show landS (i / X / Z) = 15 from if_pos e]; omega
    · rw [show landS (i / X / Z) = 0 from if_neg e]
      exact sf.2.dark hi (by rw [hc i hi]; exact decide_eq_false e)
  · refine lf.2.unique (W := fun _ => 0) (fun i hi => ?_) (fun i _ => lf.1 i) (fun i _ => Nat.zero_le 15) hs i hi
    rw [hl]
    have : Glow.up (Glow.sides X 64 Z) (fun _ => 0) i = 0 := by
      rcases Glow.up_of (Glow.sides X 64 Z) (fun _ => 0) i with e | ⟨s, _, e⟩
      · exact e
      · rw [e]
    rw [this]; split <;> rfl
set_option maxHeartbeats 1000000 in
theorem land_in (n : Nat) (W0 : World) (px py pz : Int) (u v : Nat) (hu : u ≤ 255) (hv : v ≤ 255) : CallsIn Fence.wide n Try.prog 11 #[.agg #[.int .i64 px, .int .i64 py, .int .i64 pz], .int .u8 u, .int .u8 v] W0 fun e w' => e = .returned (.bool true) ∧ Below W0.heap.size W0 w' := by
  refine callsIn_of_wp Try.func11 rfl trivial ?_
  show C11.wpIn _ _ _ _ _ _
  rw [C11_eq]
  refine wpIn_seq (ld0 n W0 px py pz u v _ _ ⟨by simp [Try.ntmps11], rfl, by simp [Try.ntmps11], rfl⟩ ?_)
  intro a1 hs1
  have hH := (Has.start W0).alloc (.cells #[.int .i64 px, .int .i64 py, .int .i64 pz] 48)
  generalize W0.alloc (.cells #[.int .i64 px, .int .i64 py, .int .i64 pz] 48) = W1 at hs1 hH ⊢
  obtain ⟨S, hS⟩ : ∃ S, S = W0.heap.size := ⟨_, rfl⟩
  rw [← hS] at hs1 hH
  have ret : ∀ bs a w, SG [(6, .bool true)] 125 (Has W0 bs) a w → bodyPost Try.prog Try.f11 (fun e w' => e = .returned (.bool true) ∧ Below W0.heap.size W0 w') .ret a w := fun bs a w h =>
    ⟨h.defers, _, results_tmp (t := 6) rfl _ _ _, by rw [Array.getD_eq_getD_getElem?, h.kn (6, .bool true) (by simp)], h.wp.bel⟩
  obtain ⟨X, hX⟩ : ∃ X, X = 1 + u % 4 := ⟨_, rfl⟩
  obtain ⟨Z, hZ⟩ : ∃ Z, Z = 1 + v % 4 := ⟨_, rfl⟩
  obtain ⟨N, hNe⟩ : ∃ N, N = X * 64 * Z := ⟨_, rfl⟩
  have bX : 1 ≤ X ∧ X ≤ 4 := by omega
  have bZ : 1 ≤ Z ∧ Z ≤ 4 := by omega
  have bN : N ≤ 1024 := by rw [hNe]; exact Nat.mul_le_mul (Nat.mul_le_mul bX.2 (Nat.le_refl 64)) bZ.2
  refine wpIn_seq (ld1 n W1 S u v (u % 4) (v % 4) X Z (tmodL _ 4) (widL (by omega)) (by rw [hX]; exact wadd1L (by omega)) (tmodL _ 4) (widL (by omega)) (by rw [hZ]; exact wadd1L (by omega)) _ a1 hs1 ?_)
  intro a2 hs2
  have hH2 := hH.alloc (.cells #[.int .i64 X, .int .i64 64, .int .i64 Z, .slice none 0 0] 24)
  generalize W1.alloc (.cells #[.int .i64 X, .int .i64 64, .int .i64 Z, .slice none 0 0] 24) = W2 at hs2 hH2 ⊢
  generalize W1.heap.size = B at hs2 hH2
  refine wpIn_seq (ld2 n S B X Z (X * 64) N (@wmulL X 64 (by omega)) (by rw [wmulL (by rw [← hNe]; omega), hNe]) (fun w hh => hh.cell List.mem_cons_self rfl) (fun w hh => hh.cell List.mem_cons_self rfl) (fun w hh => hh.cell List.mem_cons_self rfl) (by omega)
    (fun g2 => Has W0 ((g2, .cells (madeCells #[.int .u8 0, .int .u8 0] (N * 2)) 32 (0, 0)) :: (B, .cells #[.int .i64 X, .int .i64 64, .int .i64 Z, .slice none 0 0] 24 (0, 0)) :: [(S, .cells #[.int .i64 px, .int .i64 py, .int .i64 pz] 48 (0, 0))])) (fun w hh => hh.alloc _)
    (fun g2 => Has W0 (bsL X Z N B S g2 px py pz (madeCells #[.int .u8 0, .int .u8 0] (N * 2))))
    (fun g2 w hh => ⟨_, hh.swap.cell (j := 3) List.mem_cons_self rfl⟩) (fun g2 w hh => hh.swap.unfrozen List.mem_cons_self 3) (fun g2 w hh => by have := (hh.swap.set (m := 3) (.slice (some ⟨g2, 0, none⟩) N N)).swap; simpa using this) _ a2 W2 (hs2.sg hH2) ?_)
  intro g2 a3 w3 hs3
  have hG3 := hs3.wp
  refine wpIn_seq (wpIn_seq (ld3 n w3 S B _ a3 hs3.sr ?_))
  intro a4 hs4
  refine land_loop n bX bZ hNe ⟨size_madeCells _ _, fun m hm => absurd hm (by omega)⟩ a4 w3 _ (hs4.sg hG3) ?_
  intro c a5 w5 f0 hs5
  have same : ∀ {c : Array Value}, ∀ q ∈ bsL X Z N B S g2 px py pz c, q ∈ bsL X Z N B S g2 px py pz c := fun _ h => h
  have hA : ∀ i, i < N → (clA (landA X Z) i = decide (15 < i / X / Z)) ∧ lmA (landA X Z) i = 0 := fun i hi => by
    have k3 := (Glow.dec_lt (show i < X * 64 * Z by rw [← hNe]; exact hi)).2.2
    have := land_kind _ k3
    unfold clA lmA
    rw [kd_land, lv_land]
    exact this
  have hlm : ∀ i, lmA (landA X Z) i = 0 := fun i => by
    unfold lmA
    rw [kd_land, lv_land]
    have : ∀ k, k < 4 → (K.lamp (k : Nat) (0 : Nat)).toNat = 0 := by decide
    refine this _ ?_
    unfold landK
    split
    · omega
    · split
      · omega
      · split <;> omega
  have hrow : ∀ {w}, Has W0 (bsL X Z N B S g2 px py pz c) w → Row2 w g2 0 N (landA X Z) := fun hh => {
    lt := hh.lt List.mem_cons_self
    cell := fun j hj => by
      rw [Nat.zero_add]
      exact hh.cell List.mem_cons_self (f0.row j hj)
    rng := fun j _ => by
      unfold landA landK
      split
      · split
        · omega
        · split
          · omega
          · split <;> omega
      · omega }
  refine wpIn_seq (ld7 n S B g2 N X (64 : Nat) Z (fun r => Has W0 ((r, .cells (pairsV (skyL X 64 Z (clA (landA X Z))) (lampL X 64 Z (clA (landA X Z)) (lmA (landA X Z))) N N) 37 (0, 0)) :: bsL X Z N B S g2 px py pz c))
    (fun w hh => cbL same hh rfl) (fun w hh => cbL same hh rfl) (fun w hh => cbL same hh rfl) (fun w hh => cbL same hh rfl) (fun m w hh => light_has m (hrow hh) (by omega) (by omega) (by omega) hNe (by omega) hh) _ a5 w5 hs5 ?_)
  intro r a7 w7 hs7
  have hG7 := hs7.wp
  have sub1 : ∀ {p : Nat × Obj}, ∀ q ∈ bsL X Z N B S g2 px py pz c, q ∈ p :: bsL X Z N B S g2 px py pz c := fun _ h => List.mem_cons_of_mem _ h
  refine wpIn_seq (wpIn_seq (ld8 n w7 S B r g2 N (cbL sub1 hG7 rfl) _ a7 hs7.sr ?_))
  intro a8 hs8
  refine wpIn_cond (t := false) (by rw [eval_tmp]; exact hs8.kn (84, .bool false) (by simp)) (wpIn_skip ?_)
  refine wpIn_seq (wpIn_seq (ld10 n w7 S B r N _ a8 (hs8.sub (by simp)) ?_))
  intro a9 hs9
  have hl := fun i hi => land_light bX.1 bZ.1 hNe (fun i hi => (hA i hi).1) hlm (i := i) hi
  refine land_loop2 n (Has.stable _ _) bX bZ hNe (fun w hh => cbL sub1 hh rfl) (fun w hh => cbL sub1 hh rfl) (fun w hh => csL sub1 hh rfl) (fun w hh => csL sub1 hh rfl)
    (fun i hi w hh => by have := hh.cell List.mem_cons_self (pair_sky (skyL X 64 Z (clA (landA X Z))) (lampL X 64 Z (clA (landA X Z)) (lmA (landA X Z))) hi); rw [(hl i hi).1] at this; exact this)
    (fun i hi w hh => by have := hh.cell List.mem_cons_self (pair_lamp (skyL X 64 Z (clA (landA X Z))) (lampL X 64 Z (clA (landA X Z)) (lmA (landA X Z))) hi); rw [(hl i hi).2] at this; exact this) a9 w7 _ (hs9.sg hG7) ?_
  intro a10 w10 hs10
  refine wpIn_seq (ld15 n (Has.stable _ _) (fun m w _ => works_in m w) _ a10 w10 hs10 ?_)
  intro a11 w11 hs11
  exact wpIn_ret (ret _ a11 w11 hs11)
end Go.Proofs.Ytmgiabehooghcaa
