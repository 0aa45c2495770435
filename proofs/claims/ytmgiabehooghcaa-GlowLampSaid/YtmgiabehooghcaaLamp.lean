/- Glow: the walk of a law. -/
import Derived.RangeFuncNested
import Derived.RangeFuncBound
import Derived.RangeFuncCalls
import Derived.RangeFuncLeaves
import Derived.Shelf.Abstract
import Derived.Shelf.RegionOpen
import Derived.WalkKit
import Derived.OwnWalkIn
import Derived.TacticsInMore
import Derived.LoopNIn
import Derived.LoopIn
import Derived.Lib.Hide
import Derived.IntWalk
import Derived.Maps.AppendAt
import Derived.Test.YtmgiabehooghcaaKc
import Derived.Test.YtmgiabehooghcaaGin
import Derived.Test.YtmgiabehooghcaaH5
set_option linter.unusedVariables false
set_option linter.unusedSimpArgs false
namespace Go.Proofs.Ytmgiabehooghcaa
open Go.RowKit Go.Shelf
attribute [local go_sem] Oper.semAt_some

/-! ### GlowLamp: its parts -/
noncomputable def C8 : Code := Try.f8.body.getD .skip
theorem info32 : (Try.prog.info? 32).map (fun i => (i.zero, i.size, i.bytes)) = some (some (.agg #[.int .u8 0, .int .u8 0]), 2, 2) := by kernel_rfl
theorem under22 : Try.prog.underlying 22 = some (.slice 32) := by kernel_rfl
theorem add_none (b o j : Nat) : (⟨b, o, none⟩ : Addr).add j = ⟨b, o + j, none⟩ := by
  unfold Addr.add
  split
  · rename_i h; subst h; rfl
  · rfl
set_option maxRecDepth 100000 in
set_option maxHeartbeats 4000000 in
theorem u0 (n : Nat) (W : World) (X Y Z p : Int) (cv : Value) (Q : Exit → Act → World → Prop) (a : Act) (h0 : SR [(0, .agg #[.int .i64 X, .int .i64 Y, .int .i64 Z, cv]), (1, .int .i64 p)] 120 [] W a W)
    (hQ : ∀ a, SR [(1, .int .i64 p), (2, .pointer (some ⟨W.heap.size, 0, none⟩))] 120 [] (W.alloc (.cells #[.int .i64 X, .int .i64 Y, .int .i64 Z, cv] 24)) a (W.alloc (.cells #[.int .i64 X, .int .i64 Y, .int .i64 Z, cv] 24)) → Q .normal a (W.alloc (.cells #[.int .i64 X, .int .i64 Y, .int .i64 Z, cv] 24))) : (regOf 0 C8).wpIn Fence.wide n Try.prog Q a W := by
  simp only [regOf, C8, Try.f8, Option.getD, Nat.reduceBEq, Bool.false_eq_true, if_true, if_false]
  refine region_sq (fun k_ a w => match k_ with | 0 => SR [(0, .agg #[.int .i64 X, .int .i64 Y, .int .i64 Z, cv]), (1, .int .i64 p)] 120 [] (W) a w | 1 => SR [(1, .int .i64 p), (2, .pointer (some ⟨W.heap.size, 0, none⟩))] 120 [] (W.alloc (.cells #[.int .i64 X, .int .i64 Y, .int .i64 Z, cv] 24)) a w | _ => SR [(1, .int .i64 p), (2, .pointer (some ⟨W.heap.size, 0, none⟩))] 120 [] (W.alloc (.cells #[.int .i64 X, .int .i64 Y, .int .i64 Z, cv] 24)) a w) (show SR _ _ _ _ a W from h0) ⟨?_, ?_, trivial⟩ ?_
  · intro a w hI
    have hI : SR _ _ _ _ a w := hI
    have e0 := hI.g 0 rfl
    have hw : w = W := hI.wp
    subst hw
    go_simp
    exact hI.put (d := 2) (by decide) (by simp)
  · intro a w hI
    have hI : SR _ _ _ _ a w := hI
    obtain rfl := hI.wp
    go_simp
    exact hI.put (d := 4) (by decide) (by simp)
  · intro a w hI
    have hI : SR _ _ _ _ a w := hI
    obtain rfl := hI.wp
    exact hQ a hI
set_option maxRecDepth 100000 in
set_option maxHeartbeats 4000000 in
theorem u1a (n : Nat) (W : World) (B : Nat) (p : Int) (sp : Option Addr) (len cap : Nat) (h : 3000 < len) (c3 : W.cell? ⟨B, 3, none⟩ = some (.slice sp len cap)) (Q : Exit → Act → World → Prop) (a : Act) (h0 : SR [(1, .int .i64 p), (2, .pointer (some ⟨B, 0, none⟩))] 120 [] W a W)
    (hQ : ∀ a, SR [(1, .int .i64 p), (2, .pointer (some ⟨B, 0, none⟩)), (34, .bool true)] 120 [] (W) a (W) → Q .normal a (W)) : (regOf 1 C8).wpIn Fence.wide n Try.prog Q a W := by
  simp only [regOf, C8, Try.f8, Option.getD, Nat.reduceBEq, Bool.false_eq_true, if_true, if_false]
  refine region_sq (fun k_ a w => match k_ with | 0 => SR [(1, .int .i64 p), (2, .pointer (some ⟨B, 0, none⟩))] 120 [] (W) a w | 1 => SR [(1, .int .i64 p), (2, .pointer (some ⟨B, 0, none⟩)), (11, .pointer (some ⟨B, 3, none⟩))] 120 [] (W) a w | 2 => SR [(1, .int .i64 p), (2, .pointer (some ⟨B, 0, none⟩)), (12, .slice sp len cap)] 120 [] (W) a w | 3 => SR [(1, .int .i64 p), (2, .pointer (some ⟨B, 0, none⟩)), (13, .int .i64 len)] 120 [] (W) a w | 4 => SR [(1, .int .i64 p), (2, .pointer (some ⟨B, 0, none⟩)), (14, .bool true)] 120 [] (W) a w | 5 => SR [(1, .int .i64 p), (2, .pointer (some ⟨B, 0, none⟩)), (15, .bool true)] 120 [] (W) a w | 6 => SR [(1, .int .i64 p), (2, .pointer (some ⟨B, 0, none⟩)), (15, .bool true)] 120 [] (W) a w | 7 => SR [(1, .int .i64 p), (2, .pointer (some ⟨B, 0, none⟩)), (15, .bool true)] 120 [] (W) a w | 8 => SR [(1, .int .i64 p), (2, .pointer (some ⟨B, 0, none⟩)), (18, .bool true)] 120 [] (W) a w | 9 => SR [(1, .int .i64 p), (2, .pointer (some ⟨B, 0, none⟩)), (19, .bool true)] 120 [] (W) a w | 10 => SR [(1, .int .i64 p), (2, .pointer (some ⟨B, 0, none⟩)), (19, .bool true)] 120 [] (W) a w | 11 => SR [(1, .int .i64 p), (2, .pointer (some ⟨B, 0, none⟩)), (19, .bool true)] 120 [] (W) a w | 12 => SR [(1, .int .i64 p), (2, .pointer (some ⟨B, 0, none⟩)), (19, .bool true)] 120 [] (W) a w | 13 => SR [(1, .int .i64 p), (2, .pointer (some ⟨B, 0, none⟩)), (19, .bool true)] 120 [] (W) a w | 14 => SR [(1, .int .i64 p), (2, .pointer (some ⟨B, 0, none⟩)), (19, .bool true)] 120 [] (W) a w | 15 => SR [(1, .int .i64 p), (2, .pointer (some ⟨B, 0, none⟩)), (25, .bool true)] 120 [] (W) a w | 16 => SR [(1, .int .i64 p), (2, .pointer (some ⟨B, 0, none⟩)), (26, .bool true)] 120 [] (W) a w | 17 => SR [(1, .int .i64 p), (2, .pointer (some ⟨B, 0, none⟩)), (26, .bool true)] 120 [] (W) a w | 18 => SR [(1, .int .i64 p), (2, .pointer (some ⟨B, 0, none⟩)), (26, .bool true)] 120 [] (W) a w | 19 => SR [(1, .int .i64 p), (2, .pointer (some ⟨B, 0, none⟩)), (26, .bool true)] 120 [] (W) a w | 20 => SR [(1, .int .i64 p), (2, .pointer (some ⟨B, 0, none⟩)), (26, .bool true)] 120 [] (W) a w | 21 => SR [(1, .int .i64 p), (2, .pointer (some ⟨B, 0, none⟩)), (26, .bool true)] 120 [] (W) a w | 22 => SR [(1, .int .i64 p), (2, .pointer (some ⟨B, 0, none⟩)), (26, .bool true)] 120 [] (W) a w | 23 => SR [(1, .int .i64 p), (2, .pointer (some ⟨B, 0, none⟩)), (26, .bool true)] 120 [] (W) a w | _ => SR [(1, .int .i64 p), (2, .pointer (some ⟨B, 0, none⟩)), (34, .bool true)] 120 [] (W) a w) (show SR _ _ _ _ a W from h0) ⟨?_, ?_, ?_, ?_, ?_, ?_, ?_, ?_, ?_, ?_, ?_, ?_, ?_, ?_, ?_, ?_, ?_, ?_, ?_, ?_, ?_, ?_, ?_, ?_, trivial⟩ ?_
  · intro a w hI
    have hI : SR _ _ _ _ a w := hI
    have e2 := hI.g 2 rfl
    have hw : w = W := hI.wp
    subst hw
    go_simp
    exact hI.put (d := 11) (by decide) (by simp)
  · intro a w hI
    have hI : SR _ _ _ _ a w := hI
    have e11 := hI.g 11 rfl
    have hw : w = W := hI.wp
    subst hw
    go_simp
    exact hI.put (d := 12) (by decide) (by simp)
  · intro a w hI
    have hI : SR _ _ _ _ a w := hI
    have e12 := hI.g 12 rfl
    have hw : w = W := hI.wp
    subst hw
    go_simp
    exact hI.put (d := 13) (by decide) (by simp)
  · intro a w hI
    have hI : SR _ _ _ _ a w := hI
    have e13 := hI.g 13 rfl
    have hw : w = W := hI.wp
    subst hw
    have z1 : (3000 : Int) < len := by omega
    go_simp
    exact hI.put (d := 14) (by decide) (by simp)
  · intro a w hI
    have hI : SR _ _ _ _ a w := hI
    have e14 := hI.g 14 rfl
    have hw : w = W := hI.wp
    subst hw
    go_simp
    exact hI.put (d := 15) (by decide) (by simp)
  · intro a w hI
    have hI : SR _ _ _ _ a w := hI
    have e15 := hI.g 15 rfl
    have f15 := slot_bool e15
    have hw : w = W := hI.wp
    subst hw
    go_simp
    exact hI.put (d := 16) (by decide) (by simp)
  · intro a w hI
    have hI : SR _ _ _ _ a w := hI
    have e15 := hI.g 15 rfl
    have f15 := slot_bool e15
    have hw : w = W := hI.wp
    subst hw
    go_simp
    exact hI.put (d := 17) (by decide) (by simp)
  · intro a w hI
    have hI : SR _ _ _ _ a w := hI
    have e15 := hI.g 15 rfl
    have hw : w = W := hI.wp
    subst hw
    go_simp
    exact hI.put (d := 18) (by decide) (by simp)
  · intro a w hI
    have hI : SR _ _ _ _ a w := hI
    have e18 := hI.g 18 rfl
    have hw : w = W := hI.wp
    subst hw
    go_simp
    exact hI.put (d := 19) (by decide) (by simp)
  · intro a w hI
    have hI : SR _ _ _ _ a w := hI
    have e19 := hI.g 19 rfl
    have f19 := slot_bool e19
    have hw : w = W := hI.wp
    subst hw
    go_simp
    exact hI.put (d := 20) (by decide) (by simp)
  · intro a w hI
    have hI : SR _ _ _ _ a w := hI
    have e19 := hI.g 19 rfl
    have f19 := slot_bool e19
    have hw : w = W := hI.wp
    subst hw
    go_simp
    exact hI.put (d := 21) (by decide) (by simp)
  · intro a w hI
    have hI : SR _ _ _ _ a w := hI
    have e19 := hI.g 19 rfl
    have f19 := slot_bool e19
    have hw : w = W := hI.wp
    subst hw
    go_simp
    exact hI.put (d := 22) (by decide) (by simp)
  · intro a w hI
    have hI : SR _ _ _ _ a w := hI
    have e19 := hI.g 19 rfl
    have f19 := slot_bool e19
    have hw : w = W := hI.wp
    subst hw
    go_simp
    exact hI.put (d := 23) (by decide) (by simp)
  · intro a w hI
    have hI : SR _ _ _ _ a w := hI
    have e19 := hI.g 19 rfl
    have f19 := slot_bool e19
    have hw : w = W := hI.wp
    subst hw
    go_simp
    exact hI.put (d := 24) (by decide) (by simp)
  · intro a w hI
    have hI : SR _ _ _ _ a w := hI
    have e19 := hI.g 19 rfl
    have hw : w = W := hI.wp
    subst hw
    go_simp
    exact hI.put (d := 25) (by decide) (by simp)
  · intro a w hI
    have hI : SR _ _ _ _ a w := hI
    have e25 := hI.g 25 rfl
    have hw : w = W := hI.wp
    subst hw
    go_simp
    exact hI.put (d := 26) (by decide) (by simp)
  · intro a w hI
    have hI : SR _ _ _ _ a w := hI
    have e26 := hI.g 26 rfl
    have f26 := slot_bool e26
    have hw : w = W := hI.wp
    subst hw
    go_simp
    exact hI.put (d := 27) (by decide) (by simp)
  · intro a w hI
    have hI : SR _ _ _ _ a w := hI
    have e26 := hI.g 26 rfl
    have f26 := slot_bool e26
    have hw : w = W := hI.wp
    subst hw
    go_simp
    exact hI.put (d := 28) (by decide) (by simp)
  · intro a w hI
    have hI : SR _ _ _ _ a w := hI
    have e26 := hI.g 26 rfl
    have f26 := slot_bool e26
    have hw : w = W := hI.wp
    subst hw
    go_simp
    exact hI.put (d := 29) (by decide) (by simp)
  · intro a w hI
    have hI : SR _ _ _ _ a w := hI
    have e26 := hI.g 26 rfl
    have f26 := slot_bool e26
    have hw : w = W := hI.wp
    subst hw
    go_simp
    exact hI.put (d := 30) (by decide) (by simp)
  · intro a w hI
    have hI : SR _ _ _ _ a w := hI
    have e26 := hI.g 26 rfl
    have f26 := slot_bool e26
    have hw : w = W := hI.wp
    subst hw
    go_simp
    exact hI.put (d := 31) (by decide) (by simp)
  · intro a w hI
    have hI : SR _ _ _ _ a w := hI
    have e26 := hI.g 26 rfl
    have f26 := slot_bool e26
    have hw : w = W := hI.wp
    subst hw
    go_simp
    exact hI.put (d := 32) (by decide) (by simp)
  · intro a w hI
    have hI : SR _ _ _ _ a w := hI
    have e26 := hI.g 26 rfl
    have f26 := slot_bool e26
    have hw : w = W := hI.wp
    subst hw
    go_simp
    exact hI.put (d := 33) (by decide) (by simp)
  · intro a w hI
    have hI : SR _ _ _ _ a w := hI
    have e26 := hI.g 26 rfl
    have hw : w = W := hI.wp
    subst hw
    go_simp
    exact hI.put (d := 34) (by decide) (by simp)
  · intro a w hI
    have hI : SR _ _ _ _ a w := hI
    have hw : w = W := hI.wp
    subst hw
    exact hQ a hI
set_option maxRecDepth 100000 in
set_option maxHeartbeats 4000000 in
theorem u1b (n : Nat) (W : World) (B : Nat) (p : Int) (sp : Option Addr) (len cap : Nat) (h : ¬ 3000 < len) (hp : p < 0) (c3 : W.cell? ⟨B, 3, none⟩ = some (.slice sp len cap)) (Q : Exit → Act → World → Prop) (a : Act) (h0 : SR [(1, .int .i64 p), (2, .pointer (some ⟨B, 0, none⟩))] 120 [] W a W)
    (hQ : ∀ a, SR [(1, .int .i64 p), (2, .pointer (some ⟨B, 0, none⟩)), (34, .bool true)] 120 [] (W) a (W) → Q .normal a (W)) : (regOf 1 C8).wpIn Fence.wide n Try.prog Q a W := by
  simp only [regOf, C8, Try.f8, Option.getD, Nat.reduceBEq, Bool.false_eq_true, if_true, if_false]
  refine region_sq (fun k_ a w => match k_ with | 0 => SR [(1, .int .i64 p), (2, .pointer (some ⟨B, 0, none⟩))] 120 [] (W) a w | 1 => SR [(1, .int .i64 p), (2, .pointer (some ⟨B, 0, none⟩)), (11, .pointer (some ⟨B, 3, none⟩))] 120 [] (W) a w | 2 => SR [(1, .int .i64 p), (2, .pointer (some ⟨B, 0, none⟩)), (12, .slice sp len cap)] 120 [] (W) a w | 3 => SR [(1, .int .i64 p), (2, .pointer (some ⟨B, 0, none⟩)), (13, .int .i64 len)] 120 [] (W) a w | 4 => SR [(1, .int .i64 p), (2, .pointer (some ⟨B, 0, none⟩)), (14, .bool false)] 120 [] (W) a w | 5 => SR [(1, .int .i64 p), (2, .pointer (some ⟨B, 0, none⟩)), (15, .bool false)] 120 [] (W) a w | 6 => SR [(1, .int .i64 p), (2, .pointer (some ⟨B, 0, none⟩)), (15, .bool false), (16, .int .i64 p)] 120 [] (W) a w | 7 => SR [(1, .int .i64 p), (2, .pointer (some ⟨B, 0, none⟩)), (15, .bool false), (17, .bool true)] 120 [] (W) a w | 8 => SR [(1, .int .i64 p), (2, .pointer (some ⟨B, 0, none⟩)), (18, .bool true)] 120 [] (W) a w | 9 => SR [(1, .int .i64 p), (2, .pointer (some ⟨B, 0, none⟩)), (19, .bool true)] 120 [] (W) a w | 10 => SR [(1, .int .i64 p), (2, .pointer (some ⟨B, 0, none⟩)), (19, .bool true)] 120 [] (W) a w | 11 => SR [(1, .int .i64 p), (2, .pointer (some ⟨B, 0, none⟩)), (19, .bool true)] 120 [] (W) a w | 12 => SR [(1, .int .i64 p), (2, .pointer (some ⟨B, 0, none⟩)), (19, .bool true)] 120 [] (W) a w | 13 => SR [(1, .int .i64 p), (2, .pointer (some ⟨B, 0, none⟩)), (19, .bool true)] 120 [] (W) a w | 14 => SR [(1, .int .i64 p), (2, .pointer (some ⟨B, 0, none⟩)), (19, .bool true)] 120 [] (W) a w | 15 => SR [(1, .int .i64 p), (2, .pointer (some ⟨B, 0, none⟩)), (25, .bool true)] 120 [] (W) a w | 16 => SR [(1, .int .i64 p), (2, .pointer (some ⟨B, 0, none⟩)), (26, .bool true)] 120 [] (W) a w | 17 => SR [(1, .int .i64 p), (2, .pointer (some ⟨B, 0, none⟩)), (26, .bool true)] 120 [] (W) a w | 18 => SR [(1, .int .i64 p), (2, .pointer (some ⟨B, 0, none⟩)), (26, .bool true)] 120 [] (W) a w | 19 => SR [(1, .int .i64 p), (2, .pointer (some ⟨B, 0, none⟩)), (26, .bool true)] 120 [] (W) a w | 20 => SR [(1, .int .i64 p), (2, .pointer (some ⟨B, 0, none⟩)), (26, .bool true)] 120 [] (W) a w | 21 => SR [(1, .int .i64 p), (2, .pointer (some ⟨B, 0, none⟩)), (26, .bool true)] 120 [] (W) a w | 22 => SR [(1, .int .i64 p), (2, .pointer (some ⟨B, 0, none⟩)), (26, .bool true)] 120 [] (W) a w | 23 => SR [(1, .int .i64 p), (2, .pointer (some ⟨B, 0, none⟩)), (26, .bool true)] 120 [] (W) a w | _ => SR [(1, .int .i64 p), (2, .pointer (some ⟨B, 0, none⟩)), (34, .bool true)] 120 [] (W) a w) (show SR _ _ _ _ a W from h0) ⟨?_, ?_, ?_, ?_, ?_, ?_, ?_, ?_, ?_, ?_, ?_, ?_, ?_, ?_, ?_, ?_, ?_, ?_, ?_, ?_, ?_, ?_, ?_, ?_, trivial⟩ ?_
  · intro a w hI
    have hI : SR _ _ _ _ a w := hI
    have e2 := hI.g 2 rfl
    have hw : w = W := hI.wp
    subst hw
    go_simp
    exact hI.put (d := 11) (by decide) (by simp)
  · intro a w hI
    have hI : SR _ _ _ _ a w := hI
    have e11 := hI.g 11 rfl
    have hw : w = W := hI.wp
    subst hw
    go_simp
    exact hI.put (d := 12) (by decide) (by simp)
  · intro a w hI
    have hI : SR _ _ _ _ a w := hI
    have e12 := hI.g 12 rfl
    have hw : w = W := hI.wp
    subst hw
    go_simp
    exact hI.put (d := 13) (by decide) (by simp)
  · intro a w hI
    have hI : SR _ _ _ _ a w := hI
    have e13 := hI.g 13 rfl
    have hw : w = W := hI.wp
    subst hw
    have z1 : ¬ (3000 : Int) < len := by omega
    go_simp
    exact hI.put (d := 14) (by decide) (by simp)
  · intro a w hI
    have hI : SR _ _ _ _ a w := hI
    have e14 := hI.g 14 rfl
    have hw : w = W := hI.wp
    subst hw
    go_simp
    exact hI.put (d := 15) (by decide) (by simp)
  · intro a w hI
    have hI : SR _ _ _ _ a w := hI
    have e1 := hI.g 1 rfl
    have e15 := hI.g 15 rfl
    have f15 := slot_bool e15
    have hw : w = W := hI.wp
    subst hw
    go_simp
    exact hI.put (d := 16) (by decide) (by simp)
  · intro a w hI
    have hI : SR _ _ _ _ a w := hI
    have e16 := hI.g 16 rfl
    have e15 := hI.g 15 rfl
    have f15 := slot_bool e15
    have hw : w = W := hI.wp
    subst hw
    have z2 : (p < (0 : Int)) := by omega
    go_simp
    exact hI.put (d := 17) (by decide) (by simp)
  · intro a w hI
    have hI : SR _ _ _ _ a w := hI
    have e15 := hI.g 15 rfl
    have e17 := hI.g 17 rfl
    have hw : w = W := hI.wp
    subst hw
    go_simp
    exact hI.put (d := 18) (by decide) (by simp)
  · intro a w hI
    have hI : SR _ _ _ _ a w := hI
    have e18 := hI.g 18 rfl
    have hw : w = W := hI.wp
    subst hw
    go_simp
    exact hI.put (d := 19) (by decide) (by simp)
  · intro a w hI
    have hI : SR _ _ _ _ a w := hI
    have e19 := hI.g 19 rfl
    have f19 := slot_bool e19
    have hw : w = W := hI.wp
    subst hw
    go_simp
    exact hI.put (d := 20) (by decide) (by simp)
  · intro a w hI
    have hI : SR _ _ _ _ a w := hI
    have e19 := hI.g 19 rfl
    have f19 := slot_bool e19
    have hw : w = W := hI.wp
    subst hw
    go_simp
    exact hI.put (d := 21) (by decide) (by simp)
  · intro a w hI
    have hI : SR _ _ _ _ a w := hI
    have e19 := hI.g 19 rfl
    have f19 := slot_bool e19
    have hw : w = W := hI.wp
    subst hw
    go_simp
    exact hI.put (d := 22) (by decide) (by simp)
  · intro a w hI
    have hI : SR _ _ _ _ a w := hI
    have e19 := hI.g 19 rfl
    have f19 := slot_bool e19
    have hw : w = W := hI.wp
    subst hw
    go_simp
    exact hI.put (d := 23) (by decide) (by simp)
  · intro a w hI
    have hI : SR _ _ _ _ a w := hI
    have e19 := hI.g 19 rfl
    have f19 := slot_bool e19
    have hw : w = W := hI.wp
    subst hw
    go_simp
    exact hI.put (d := 24) (by decide) (by simp)
  · intro a w hI
    have hI : SR _ _ _ _ a w := hI
    have e19 := hI.g 19 rfl
    have hw : w = W := hI.wp
    subst hw
    go_simp
    exact hI.put (d := 25) (by decide) (by simp)
  · intro a w hI
    have hI : SR _ _ _ _ a w := hI
    have e25 := hI.g 25 rfl
    have hw : w = W := hI.wp
    subst hw
    go_simp
    exact hI.put (d := 26) (by decide) (by simp)
  · intro a w hI
    have hI : SR _ _ _ _ a w := hI
    have e26 := hI.g 26 rfl
    have f26 := slot_bool e26
    have hw : w = W := hI.wp
    subst hw
    go_simp
    exact hI.put (d := 27) (by decide) (by simp)
  · intro a w hI
    have hI : SR _ _ _ _ a w := hI
    have e26 := hI.g 26 rfl
    have f26 := slot_bool e26
    have hw : w = W := hI.wp
    subst hw
    go_simp
    exact hI.put (d := 28) (by decide) (by simp)
  · intro a w hI
    have hI : SR _ _ _ _ a w := hI
    have e26 := hI.g 26 rfl
    have f26 := slot_bool e26
    have hw : w = W := hI.wp
    subst hw
    go_simp
    exact hI.put (d := 29) (by decide) (by simp)
  · intro a w hI
    have hI : SR _ _ _ _ a w := hI
    have e26 := hI.g 26 rfl
    have f26 := slot_bool e26
    have hw : w = W := hI.wp
    subst hw
    go_simp
    exact hI.put (d := 30) (by decide) (by simp)
  · intro a w hI
    have hI : SR _ _ _ _ a w := hI
    have e26 := hI.g 26 rfl
    have f26 := slot_bool e26
    have hw : w = W := hI.wp
    subst hw
    go_simp
    exact hI.put (d := 31) (by decide) (by simp)
  · intro a w hI
    have hI : SR _ _ _ _ a w := hI
    have e26 := hI.g 26 rfl
    have f26 := slot_bool e26
    have hw : w = W := hI.wp
    subst hw
    go_simp
    exact hI.put (d := 32) (by decide) (by simp)
  · intro a w hI
    have hI : SR _ _ _ _ a w := hI
    have e26 := hI.g 26 rfl
    have f26 := slot_bool e26
    have hw : w = W := hI.wp
    subst hw
    go_simp
    exact hI.put (d := 33) (by decide) (by simp)
  · intro a w hI
    have hI : SR _ _ _ _ a w := hI
    have e26 := hI.g 26 rfl
    have hw : w = W := hI.wp
    subst hw
    go_simp
    exact hI.put (d := 34) (by decide) (by simp)
  · intro a w hI
    have hI : SR _ _ _ _ a w := hI
    have hw : w = W := hI.wp
    subst hw
    exact hQ a hI
set_option maxRecDepth 100000 in
set_option maxHeartbeats 4000000 in
theorem u1c (n : Nat) (W : World) (B : Nat) (p : Int) (sp : Option Addr) (len cap : Nat) (h : ¬ 3000 < len) (hp : ¬ p < 0) (hl : (len : Int) ≤ p) (c3 : W.cell? ⟨B, 3, none⟩ = some (.slice sp len cap)) (Q : Exit → Act → World → Prop) (a : Act) (h0 : SR [(1, .int .i64 p), (2, .pointer (some ⟨B, 0, none⟩))] 120 [] W a W)
    (hQ : ∀ a, SR [(1, .int .i64 p), (2, .pointer (some ⟨B, 0, none⟩)), (34, .bool true)] 120 [] (W) a (W) → Q .normal a (W)) : (regOf 1 C8).wpIn Fence.wide n Try.prog Q a W := by
  simp only [regOf, C8, Try.f8, Option.getD, Nat.reduceBEq, Bool.false_eq_true, if_true, if_false]
  refine region_sq (fun k_ a w => match k_ with | 0 => SR [(1, .int .i64 p), (2, .pointer (some ⟨B, 0, none⟩))] 120 [] (W) a w | 1 => SR [(1, .int .i64 p), (2, .pointer (some ⟨B, 0, none⟩)), (11, .pointer (some ⟨B, 3, none⟩))] 120 [] (W) a w | 2 => SR [(1, .int .i64 p), (2, .pointer (some ⟨B, 0, none⟩)), (12, .slice sp len cap)] 120 [] (W) a w | 3 => SR [(1, .int .i64 p), (2, .pointer (some ⟨B, 0, none⟩)), (13, .int .i64 len)] 120 [] (W) a w | 4 => SR [(1, .int .i64 p), (2, .pointer (some ⟨B, 0, none⟩)), (14, .bool false)] 120 [] (W) a w | 5 => SR [(1, .int .i64 p), (2, .pointer (some ⟨B, 0, none⟩)), (15, .bool false)] 120 [] (W) a w | 6 => SR [(1, .int .i64 p), (2, .pointer (some ⟨B, 0, none⟩)), (15, .bool false), (16, .int .i64 p)] 120 [] (W) a w | 7 => SR [(1, .int .i64 p), (2, .pointer (some ⟨B, 0, none⟩)), (15, .bool false), (17, .bool false)] 120 [] (W) a w | 8 => SR [(1, .int .i64 p), (2, .pointer (some ⟨B, 0, none⟩)), (18, .bool false)] 120 [] (W) a w | 9 => SR [(1, .int .i64 p), (2, .pointer (some ⟨B, 0, none⟩)), (19, .bool false)] 120 [] (W) a w | 10 => SR [(1, .int .i64 p), (2, .pointer (some ⟨B, 0, none⟩)), (19, .bool false), (20, .int .i64 p)] 120 [] (W) a w | 11 => SR [(1, .int .i64 p), (2, .pointer (some ⟨B, 0, none⟩)), (19, .bool false), (20, .int .i64 p), (21, .pointer (some ⟨B, 3, none⟩))] 120 [] (W) a w | 12 => SR [(1, .int .i64 p), (2, .pointer (some ⟨B, 0, none⟩)), (19, .bool false), (20, .int .i64 p), (22, .slice sp len cap)] 120 [] (W) a w | 13 => SR [(1, .int .i64 p), (2, .pointer (some ⟨B, 0, none⟩)), (19, .bool false), (20, .int .i64 p), (23, .int .i64 len)] 120 [] (W) a w | 14 => SR [(1, .int .i64 p), (2, .pointer (some ⟨B, 0, none⟩)), (19, .bool false), (24, .bool true)] 120 [] (W) a w | 15 => SR [(1, .int .i64 p), (2, .pointer (some ⟨B, 0, none⟩)), (25, .bool true)] 120 [] (W) a w | 16 => SR [(1, .int .i64 p), (2, .pointer (some ⟨B, 0, none⟩)), (26, .bool true)] 120 [] (W) a w | 17 => SR [(1, .int .i64 p), (2, .pointer (some ⟨B, 0, none⟩)), (26, .bool true)] 120 [] (W) a w | 18 => SR [(1, .int .i64 p), (2, .pointer (some ⟨B, 0, none⟩)), (26, .bool true)] 120 [] (W) a w | 19 => SR [(1, .int .i64 p), (2, .pointer (some ⟨B, 0, none⟩)), (26, .bool true)] 120 [] (W) a w | 20 => SR [(1, .int .i64 p), (2, .pointer (some ⟨B, 0, none⟩)), (26, .bool true)] 120 [] (W) a w | 21 => SR [(1, .int .i64 p), (2, .pointer (some ⟨B, 0, none⟩)), (26, .bool true)] 120 [] (W) a w | 22 => SR [(1, .int .i64 p), (2, .pointer (some ⟨B, 0, none⟩)), (26, .bool true)] 120 [] (W) a w | 23 => SR [(1, .int .i64 p), (2, .pointer (some ⟨B, 0, none⟩)), (26, .bool true)] 120 [] (W) a w | _ => SR [(1, .int .i64 p), (2, .pointer (some ⟨B, 0, none⟩)), (34, .bool true)] 120 [] (W) a w) (show SR _ _ _ _ a W from h0) ⟨?_, ?_, ?_, ?_, ?_, ?_, ?_, ?_, ?_, ?_, ?_, ?_, ?_, ?_, ?_, ?_, ?_, ?_, ?_, ?_, ?_, ?_, ?_, ?_, trivial⟩ ?_
  · intro a w hI
    have hI : SR _ _ _ _ a w := hI
    have e2 := hI.g 2 rfl
    have hw : w = W := hI.wp
    subst hw
    go_simp
    exact hI.put (d := 11) (by decide) (by simp)
  · intro a w hI
    have hI : SR _ _ _ _ a w := hI
    have e11 := hI.g 11 rfl
    have hw : w = W := hI.wp
    subst hw
    go_simp
    exact hI.put (d := 12) (by decide) (by simp)
  · intro a w hI
    have hI : SR _ _ _ _ a w := hI
    have e12 := hI.g 12 rfl
    have hw : w = W := hI.wp
    subst hw
    go_simp
    exact hI.put (d := 13) (by decide) (by simp)
  · intro a w hI
    have hI : SR _ _ _ _ a w := hI
    have e13 := hI.g 13 rfl
    have hw : w = W := hI.wp
    subst hw
    have z1 : ¬ (3000 : Int) < len := by omega
    go_simp
    exact hI.put (d := 14) (by decide) (by simp)
  · intro a w hI
    have hI : SR _ _ _ _ a w := hI
    have e14 := hI.g 14 rfl
    have hw : w = W := hI.wp
    subst hw
    go_simp
    exact hI.put (d := 15) (by decide) (by simp)
  · intro a w hI
    have hI : SR _ _ _ _ a w := hI
    have e1 := hI.g 1 rfl
    have e15 := hI.g 15 rfl
    have f15 := slot_bool e15
    have hw : w = W := hI.wp
    subst hw
    go_simp
    exact hI.put (d := 16) (by decide) (by simp)
  · intro a w hI
    have hI : SR _ _ _ _ a w := hI
    have e16 := hI.g 16 rfl
    have e15 := hI.g 15 rfl
    have f15 := slot_bool e15
    have hw : w = W := hI.wp
    subst hw
    have z2 : ¬ (p < (0 : Int)) := by omega
    go_simp
    exact hI.put (d := 17) (by decide) (by simp)
  · intro a w hI
    have hI : SR _ _ _ _ a w := hI
    have e15 := hI.g 15 rfl
    have e17 := hI.g 17 rfl
    have hw : w = W := hI.wp
    subst hw
    go_simp
    exact hI.put (d := 18) (by decide) (by simp)
  · intro a w hI
    have hI : SR _ _ _ _ a w := hI
    have e18 := hI.g 18 rfl
    have hw : w = W := hI.wp
    subst hw
    go_simp
    exact hI.put (d := 19) (by decide) (by simp)
  · intro a w hI
    have hI : SR _ _ _ _ a w := hI
    have e1 := hI.g 1 rfl
    have e19 := hI.g 19 rfl
    have f19 := slot_bool e19
    have hw : w = W := hI.wp
    subst hw
    go_simp
    exact hI.put (d := 20) (by decide) (by simp)
  · intro a w hI
    have hI : SR _ _ _ _ a w := hI
    have e2 := hI.g 2 rfl
    have e19 := hI.g 19 rfl
    have f19 := slot_bool e19
    have hw : w = W := hI.wp
    subst hw
    go_simp
    exact hI.put (d := 21) (by decide) (by simp)
  · intro a w hI
    have hI : SR _ _ _ _ a w := hI
    have e21 := hI.g 21 rfl
    have e19 := hI.g 19 rfl
    have f19 := slot_bool e19
    have hw : w = W := hI.wp
    subst hw
    go_simp
    exact hI.put (d := 22) (by decide) (by simp)
  · intro a w hI
    have hI : SR _ _ _ _ a w := hI
    have e22 := hI.g 22 rfl
    have e19 := hI.g 19 rfl
    have f19 := slot_bool e19
    have hw : w = W := hI.wp
    subst hw
    go_simp
    exact hI.put (d := 23) (by decide) (by simp)
  · intro a w hI
    have hI : SR _ _ _ _ a w := hI
    have e20 := hI.g 20 rfl
    have e23 := hI.g 23 rfl
    have e19 := hI.g 19 rfl
    have f19 := slot_bool e19
    have hw : w = W := hI.wp
    subst hw
    have z3 : ((len : Int) ≤ p) := by omega
    go_simp
    exact hI.put (d := 24) (by decide) (by simp)
  · intro a w hI
    have hI : SR _ _ _ _ a w := hI
    have e19 := hI.g 19 rfl
    have e24 := hI.g 24 rfl
    have hw : w = W := hI.wp
    subst hw
    go_simp
    exact hI.put (d := 25) (by decide) (by simp)
  · intro a w hI
    have hI : SR _ _ _ _ a w := hI
    have e25 := hI.g 25 rfl
    have hw : w = W := hI.wp
    subst hw
    go_simp
    exact hI.put (d := 26) (by decide) (by simp)
  · intro a w hI
    have hI : SR _ _ _ _ a w := hI
    have e26 := hI.g 26 rfl
    have f26 := slot_bool e26
    have hw : w = W := hI.wp
    subst hw
    go_simp
    exact hI.put (d := 27) (by decide) (by simp)
  · intro a w hI
    have hI : SR _ _ _ _ a w := hI
    have e26 := hI.g 26 rfl
    have f26 := slot_bool e26
    have hw : w = W := hI.wp
    subst hw
    go_simp
    exact hI.put (d := 28) (by decide) (by simp)
  · intro a w hI
    have hI : SR _ _ _ _ a w := hI
    have e26 := hI.g 26 rfl
    have f26 := slot_bool e26
    have hw : w = W := hI.wp
    subst hw
    go_simp
    exact hI.put (d := 29) (by decide) (by simp)
  · intro a w hI
    have hI : SR _ _ _ _ a w := hI
    have e26 := hI.g 26 rfl
    have f26 := slot_bool e26
    have hw : w = W := hI.wp
    subst hw
    go_simp
    exact hI.put (d := 30) (by decide) (by simp)
  · intro a w hI
    have hI : SR _ _ _ _ a w := hI
    have e26 := hI.g 26 rfl
    have f26 := slot_bool e26
    have hw : w = W := hI.wp
    subst hw
    go_simp
    exact hI.put (d := 31) (by decide) (by simp)
  · intro a w hI
    have hI : SR _ _ _ _ a w := hI
    have e26 := hI.g 26 rfl
    have f26 := slot_bool e26
    have hw : w = W := hI.wp
    subst hw
    go_simp
    exact hI.put (d := 32) (by decide) (by simp)
  · intro a w hI
    have hI : SR _ _ _ _ a w := hI
    have e26 := hI.g 26 rfl
    have f26 := slot_bool e26
    have hw : w = W := hI.wp
    subst hw
    go_simp
    exact hI.put (d := 33) (by decide) (by simp)
  · intro a w hI
    have hI : SR _ _ _ _ a w := hI
    have e26 := hI.g 26 rfl
    have hw : w = W := hI.wp
    subst hw
    go_simp
    exact hI.put (d := 34) (by decide) (by simp)
  · intro a w hI
    have hI : SR _ _ _ _ a w := hI
    have hw : w = W := hI.wp
    subst hw
    exact hQ a hI
set_option maxRecDepth 100000 in
set_option maxHeartbeats 4000000 in
theorem u1d (n : Nat) (W : World) (B g off len cap p : Nat) (h : ¬ 3000 < len) (hl : p < len) (c3 : W.cell? ⟨B, 3, none⟩ = some (.slice (some ⟨g, off, none⟩) len cap)) (ca0 : W.cell? ⟨g, off + p * 2, none⟩ = some (.int .u8 0)) (ca1 : W.cell? ⟨g, off + p * 2 + 1, none⟩ = some (.int .u8 0)) (Q : Exit → Act → World → Prop) (a : Act) (h0 : SR [(1, .int .i64 p), (2, .pointer (some ⟨B, 0, none⟩))] 120 [] W a W)
    (hQ : ∀ a, SR [(1, .int .i64 p), (2, .pointer (some ⟨B, 0, none⟩)), (34, .bool false)] 120 [] (W) a (W) → Q .normal a (W)) : (regOf 1 C8).wpIn Fence.wide n Try.prog Q a W := by
  simp only [regOf, C8, Try.f8, Option.getD, Nat.reduceBEq, Bool.false_eq_true, if_true, if_false]
  refine region_sq (fun k_ a w => match k_ with | 0 => SR [(1, .int .i64 p), (2, .pointer (some ⟨B, 0, none⟩))] 120 [] (W) a w | 1 => SR [(1, .int .i64 p), (2, .pointer (some ⟨B, 0, none⟩)), (11, .pointer (some ⟨B, 3, none⟩))] 120 [] (W) a w | 2 => SR [(1, .int .i64 p), (2, .pointer (some ⟨B, 0, none⟩)), (12, .slice (some ⟨g, off, none⟩) len cap)] 120 [] (W) a w | 3 => SR [(1, .int .i64 p), (2, .pointer (some ⟨B, 0, none⟩)), (13, .int .i64 len)] 120 [] (W) a w | 4 => SR [(1, .int .i64 p), (2, .pointer (some ⟨B, 0, none⟩)), (14, .bool false)] 120 [] (W) a w | 5 => SR [(1, .int .i64 p), (2, .pointer (some ⟨B, 0, none⟩)), (15, .bool false)] 120 [] (W) a w | 6 => SR [(1, .int .i64 p), (2, .pointer (some ⟨B, 0, none⟩)), (15, .bool false), (16, .int .i64 p)] 120 [] (W) a w | 7 => SR [(1, .int .i64 p), (2, .pointer (some ⟨B, 0, none⟩)), (15, .bool false), (17, .bool false)] 120 [] (W) a w | 8 => SR [(1, .int .i64 p), (2, .pointer (some ⟨B, 0, none⟩)), (18, .bool false)] 120 [] (W) a w | 9 => SR [(1, .int .i64 p), (2, .pointer (some ⟨B, 0, none⟩)), (19, .bool false)] 120 [] (W) a w | 10 => SR [(1, .int .i64 p), (2, .pointer (some ⟨B, 0, none⟩)), (19, .bool false), (20, .int .i64 p)] 120 [] (W) a w | 11 => SR [(1, .int .i64 p), (2, .pointer (some ⟨B, 0, none⟩)), (19, .bool false), (20, .int .i64 p), (21, .pointer (some ⟨B, 3, none⟩))] 120 [] (W) a w | 12 => SR [(1, .int .i64 p), (2, .pointer (some ⟨B, 0, none⟩)), (19, .bool false), (20, .int .i64 p), (22, .slice (some ⟨g, off, none⟩) len cap)] 120 [] (W) a w | 13 => SR [(1, .int .i64 p), (2, .pointer (some ⟨B, 0, none⟩)), (19, .bool false), (20, .int .i64 p), (23, .int .i64 len)] 120 [] (W) a w | 14 => SR [(1, .int .i64 p), (2, .pointer (some ⟨B, 0, none⟩)), (19, .bool false), (24, .bool false)] 120 [] (W) a w | 15 => SR [(1, .int .i64 p), (2, .pointer (some ⟨B, 0, none⟩)), (25, .bool false)] 120 [] (W) a w | 16 => SR [(1, .int .i64 p), (2, .pointer (some ⟨B, 0, none⟩)), (26, .bool false)] 120 [] (W) a w | 17 => SR [(1, .int .i64 p), (2, .pointer (some ⟨B, 0, none⟩)), (26, .bool false), (27, .pointer (some ⟨B, 3, none⟩))] 120 [] (W) a w | 18 => SR [(1, .int .i64 p), (2, .pointer (some ⟨B, 0, none⟩)), (26, .bool false), (28, .slice (some ⟨g, off, none⟩) len cap)] 120 [] (W) a w | 19 => SR [(1, .int .i64 p), (2, .pointer (some ⟨B, 0, none⟩)), (26, .bool false), (28, .slice (some ⟨g, off, none⟩) len cap), (29, .int .i64 p)] 120 [] (W) a w | 20 => SR [(1, .int .i64 p), (2, .pointer (some ⟨B, 0, none⟩)), (26, .bool false), (30, .pointer (some ⟨g, off + p * 2, none⟩))] 120 [] (W) a w | 21 => SR [(1, .int .i64 p), (2, .pointer (some ⟨B, 0, none⟩)), (26, .bool false), (31, .agg #[.int .u8 0, .int .u8 0])] 120 [] (W) a w | 22 => SR [(1, .int .i64 p), (2, .pointer (some ⟨B, 0, none⟩)), (26, .bool false), (31, .agg #[.int .u8 0, .int .u8 0]), (32, .agg #[.int .u8 0, .int .u8 0])] 120 [] (W) a w | 23 => SR [(1, .int .i64 p), (2, .pointer (some ⟨B, 0, none⟩)), (26, .bool false), (33, .bool false)] 120 [] (W) a w | _ => SR [(1, .int .i64 p), (2, .pointer (some ⟨B, 0, none⟩)), (34, .bool false)] 120 [] (W) a w) (show SR _ _ _ _ a W from h0) ⟨?_, ?_, ?_, ?_, ?_, ?_, ?_, ?_, ?_, ?_, ?_, ?_, ?_, ?_, ?_, ?_, ?_, ?_, ?_, ?_, ?_, ?_, ?_, ?_, trivial⟩ ?_
  · intro a w hI
    have hI : SR _ _ _ _ a w := hI
    have e2 := hI.g 2 rfl
    have hw : w = W := hI.wp
    subst hw
    go_simp
    exact hI.put (d := 11) (by decide) (by simp)
  · intro a w hI
    have hI : SR _ _ _ _ a w := hI
    have e11 := hI.g 11 rfl
    have hw : w = W := hI.wp
    subst hw
    go_simp
    exact hI.put (d := 12) (by decide) (by simp)
  · intro a w hI
    have hI : SR _ _ _ _ a w := hI
    have e12 := hI.g 12 rfl
    have hw : w = W := hI.wp
    subst hw
    go_simp
    exact hI.put (d := 13) (by decide) (by simp)
  · intro a w hI
    have hI : SR _ _ _ _ a w := hI
    have e13 := hI.g 13 rfl
    have hw : w = W := hI.wp
    subst hw
    have z1 : ¬ (3000 : Int) < len := by omega
    go_simp
    exact hI.put (d := 14) (by decide) (by simp)
  · intro a w hI
    have hI : SR _ _ _ _ a w := hI
    have e14 := hI.g 14 rfl
    have hw : w = W := hI.wp
    subst hw
    go_simp
    exact hI.put (d := 15) (by decide) (by simp)
  · intro a w hI
    have hI : SR _ _ _ _ a w := hI
    have e1 := hI.g 1 rfl
    have e15 := hI.g 15 rfl
    have f15 := slot_bool e15
    have hw : w = W := hI.wp
    subst hw
    go_simp
    exact hI.put (d := 16) (by decide) (by simp)
  · intro a w hI
    have hI : SR _ _ _ _ a w := hI
    have e16 := hI.g 16 rfl
    have e15 := hI.g 15 rfl
    have f15 := slot_bool e15
    have hw : w = W := hI.wp
    subst hw
    have z2 : ¬ ((p : Int) < 0) := by omega
    go_simp
    exact hI.put (d := 17) (by decide) (by simp)
  · intro a w hI
    have hI : SR _ _ _ _ a w := hI
    have e15 := hI.g 15 rfl
    have e17 := hI.g 17 rfl
    have hw : w = W := hI.wp
    subst hw
    go_simp
    exact hI.put (d := 18) (by decide) (by simp)
  · intro a w hI
    have hI : SR _ _ _ _ a w := hI
    have e18 := hI.g 18 rfl
    have hw : w = W := hI.wp
    subst hw
    go_simp
    exact hI.put (d := 19) (by decide) (by simp)
  · intro a w hI
    have hI : SR _ _ _ _ a w := hI
    have e1 := hI.g 1 rfl
    have e19 := hI.g 19 rfl
    have f19 := slot_bool e19
    have hw : w = W := hI.wp
    subst hw
    go_simp
    exact hI.put (d := 20) (by decide) (by simp)
  · intro a w hI
    have hI : SR _ _ _ _ a w := hI
    have e2 := hI.g 2 rfl
    have e19 := hI.g 19 rfl
    have f19 := slot_bool e19
    have hw : w = W := hI.wp
    subst hw
    go_simp
    exact hI.put (d := 21) (by decide) (by simp)
  · intro a w hI
    have hI : SR _ _ _ _ a w := hI
    have e21 := hI.g 21 rfl
    have e19 := hI.g 19 rfl
    have f19 := slot_bool e19
    have hw : w = W := hI.wp
    subst hw
    go_simp
    exact hI.put (d := 22) (by decide) (by simp)
  · intro a w hI
    have hI : SR _ _ _ _ a w := hI
    have e22 := hI.g 22 rfl
    have e19 := hI.g 19 rfl
    have f19 := slot_bool e19
    have hw : w = W := hI.wp
    subst hw
    go_simp
    exact hI.put (d := 23) (by decide) (by simp)
  · intro a w hI
    have hI : SR _ _ _ _ a w := hI
    have e20 := hI.g 20 rfl
    have e23 := hI.g 23 rfl
    have e19 := hI.g 19 rfl
    have f19 := slot_bool e19
    have hw : w = W := hI.wp
    subst hw
    have z3 : ¬ ((len : Int) ≤ p) := by omega
    go_simp
    exact hI.put (d := 24) (by decide) (by simp)
  · intro a w hI
    have hI : SR _ _ _ _ a w := hI
    have e19 := hI.g 19 rfl
    have e24 := hI.g 24 rfl
    have hw : w = W := hI.wp
    subst hw
    go_simp
    exact hI.put (d := 25) (by decide) (by simp)
  · intro a w hI
    have hI : SR _ _ _ _ a w := hI
    have e25 := hI.g 25 rfl
    have hw : w = W := hI.wp
    subst hw
    go_simp
    exact hI.put (d := 26) (by decide) (by simp)
  · intro a w hI
    have hI : SR _ _ _ _ a w := hI
    have e2 := hI.g 2 rfl
    have e26 := hI.g 26 rfl
    have f26 := slot_bool e26
    have hw : w = W := hI.wp
    subst hw
    go_simp
    exact hI.put (d := 27) (by decide) (by simp)
  · intro a w hI
    have hI : SR _ _ _ _ a w := hI
    have e27 := hI.g 27 rfl
    have e26 := hI.g 26 rfl
    have f26 := slot_bool e26
    have hw : w = W := hI.wp
    subst hw
    go_simp
    exact hI.put (d := 28) (by decide) (by simp)
  · intro a w hI
    have hI : SR _ _ _ _ a w := hI
    have e1 := hI.g 1 rfl
    have e26 := hI.g 26 rfl
    have f26 := slot_bool e26
    have hw : w = W := hI.wp
    subst hw
    go_simp
    exact hI.put (d := 29) (by decide) (by simp)
  · intro a w hI
    have hI : SR _ _ _ _ a w := hI
    have e28 := hI.g 28 rfl
    have e29 := hI.g 29 rfl
    have e26 := hI.g 26 rfl
    have f26 := slot_bool e26
    have hw : w = W := hI.wp
    subst hw
    have q1_19 : (0 : Int) ≤ p := by omega
    have q2_19 : (p : Int) < len := by omega
    go_simp
    exact hI.put (d := 30) (by decide) (by simp)
  · intro a w hI
    have hI : SR _ _ _ _ a w := hI
    have e30 := hI.g 30 rfl
    have e26 := hI.g 26 rfl
    have f26 := slot_bool e26
    have hw : w = W := hI.wp
    subst hw
    go_simp
    exact hI.put (d := 31) (by decide) (by simp)
  · intro a w hI
    have hI : SR _ _ _ _ a w := hI
    have e26 := hI.g 26 rfl
    have f26 := slot_bool e26
    have hw : w = W := hI.wp
    subst hw
    go_simp
    exact hI.put (d := 32) (by decide) (by simp)
  · intro a w hI
    have hI : SR _ _ _ _ a w := hI
    have e31 := hI.g 31 rfl
    have e32 := hI.g 32 rfl
    have e26 := hI.g 26 rfl
    have f26 := slot_bool e26
    have hw : w = W := hI.wp
    subst hw
    go_simp
    exact hI.put (d := 33) (by decide) (by simp)
  · intro a w hI
    have hI : SR _ _ _ _ a w := hI
    have e26 := hI.g 26 rfl
    have e33 := hI.g 33 rfl
    have hw : w = W := hI.wp
    subst hw
    go_simp
    exact hI.put (d := 34) (by decide) (by simp)
  · intro a w hI
    have hI : SR _ _ _ _ a w := hI
    have hw : w = W := hI.wp
    subst hw
    exact hQ a hI
set_option maxRecDepth 100000 in
set_option maxHeartbeats 4000000 in
theorem u1e (n : Nat) (W : World) (B g off len cap p k v : Nat) (h : ¬ 3000 < len) (hl : p < len) (hk : ¬ k = 0) (c3 : W.cell? ⟨B, 3, none⟩ = some (.slice (some ⟨g, off, none⟩) len cap)) (ca0 : W.cell? ⟨g, off + p * 2, none⟩ = some (.int .u8 k)) (ca1 : W.cell? ⟨g, off + p * 2 + 1, none⟩ = some (.int .u8 v)) (Q : Exit → Act → World → Prop) (a : Act) (h0 : SR [(1, .int .i64 p), (2, .pointer (some ⟨B, 0, none⟩))] 120 [] W a W)
    (hQ : ∀ a, SR [(1, .int .i64 p), (2, .pointer (some ⟨B, 0, none⟩)), (34, .bool true)] 120 [] (W) a (W) → Q .normal a (W)) : (regOf 1 C8).wpIn Fence.wide n Try.prog Q a W := by
  simp only [regOf, C8, Try.f8, Option.getD, Nat.reduceBEq, Bool.false_eq_true, if_true, if_false]
  refine region_sq (fun k_ a w => match k_ with | 0 => SR [(1, .int .i64 p), (2, .pointer (some ⟨B, 0, none⟩))] 120 [] (W) a w | 1 => SR [(1, .int .i64 p), (2, .pointer (some ⟨B, 0, none⟩)), (11, .pointer (some ⟨B, 3, none⟩))] 120 [] (W) a w | 2 => SR [(1, .int .i64 p), (2, .pointer (some ⟨B, 0, none⟩)), (12, .slice (some ⟨g, off, none⟩) len cap)] 120 [] (W) a w | 3 => SR [(1, .int .i64 p), (2, .pointer (some ⟨B, 0, none⟩)), (13, .int .i64 len)] 120 [] (W) a w | 4 => SR [(1, .int .i64 p), (2, .pointer (some ⟨B, 0, none⟩)), (14, .bool false)] 120 [] (W) a w | 5 => SR [(1, .int .i64 p), (2, .pointer (some ⟨B, 0, none⟩)), (15, .bool false)] 120 [] (W) a w | 6 => SR [(1, .int .i64 p), (2, .pointer (some ⟨B, 0, none⟩)), (15, .bool false), (16, .int .i64 p)] 120 [] (W) a w | 7 => SR [(1, .int .i64 p), (2, .pointer (some ⟨B, 0, none⟩)), (15, .bool false), (17, .bool false)] 120 [] (W) a w | 8 => SR [(1, .int .i64 p), (2, .pointer (some ⟨B, 0, none⟩)), (18, .bool false)] 120 [] (W) a w | 9 => SR [(1, .int .i64 p), (2, .pointer (some ⟨B, 0, none⟩)), (19, .bool false)] 120 [] (W) a w | 10 => SR [(1, .int .i64 p), (2, .pointer (some ⟨B, 0, none⟩)), (19, .bool false), (20, .int .i64 p)] 120 [] (W) a w | 11 => SR [(1, .int .i64 p), (2, .pointer (some ⟨B, 0, none⟩)), (19, .bool false), (20, .int .i64 p), (21, .pointer (some ⟨B, 3, none⟩))] 120 [] (W) a w | 12 => SR [(1, .int .i64 p), (2, .pointer (some ⟨B, 0, none⟩)), (19, .bool false), (20, .int .i64 p), (22, .slice (some ⟨g, off, none⟩) len cap)] 120 [] (W) a w | 13 => SR [(1, .int .i64 p), (2, .pointer (some ⟨B, 0, none⟩)), (19, .bool false), (20, .int .i64 p), (23, .int .i64 len)] 120 [] (W) a w | 14 => SR [(1, .int .i64 p), (2, .pointer (some ⟨B, 0, none⟩)), (19, .bool false), (24, .bool false)] 120 [] (W) a w | 15 => SR [(1, .int .i64 p), (2, .pointer (some ⟨B, 0, none⟩)), (25, .bool false)] 120 [] (W) a w | 16 => SR [(1, .int .i64 p), (2, .pointer (some ⟨B, 0, none⟩)), (26, .bool false)] 120 [] (W) a w | 17 => SR [(1, .int .i64 p), (2, .pointer (some ⟨B, 0, none⟩)), (26, .bool false), (27, .pointer (some ⟨B, 3, none⟩))] 120 [] (W) a w | 18 => SR [(1, .int .i64 p), (2, .pointer (some ⟨B, 0, none⟩)), (26, .bool false), (28, .slice (some ⟨g, off, none⟩) len cap)] 120 [] (W) a w | 19 => SR [(1, .int .i64 p), (2, .pointer (some ⟨B, 0, none⟩)), (26, .bool false), (28, .slice (some ⟨g, off, none⟩) len cap), (29, .int .i64 p)] 120 [] (W) a w | 20 => SR [(1, .int .i64 p), (2, .pointer (some ⟨B, 0, none⟩)), (26, .bool false), (30, .pointer (some ⟨g, off + p * 2, none⟩))] 120 [] (W) a w | 21 => SR [(1, .int .i64 p), (2, .pointer (some ⟨B, 0, none⟩)), (26, .bool false), (31, .agg #[.int .u8 k, .int .u8 v])] 120 [] (W) a w | 22 => SR [(1, .int .i64 p), (2, .pointer (some ⟨B, 0, none⟩)), (26, .bool false), (31, .agg #[.int .u8 k, .int .u8 v]), (32, .agg #[.int .u8 0, .int .u8 0])] 120 [] (W) a w | 23 => SR [(1, .int .i64 p), (2, .pointer (some ⟨B, 0, none⟩)), (26, .bool false), (33, .bool true)] 120 [] (W) a w | _ => SR [(1, .int .i64 p), (2, .pointer (some ⟨B, 0, none⟩)), (34, .bool true)] 120 [] (W) a w) (show SR _ _ _ _ a W from h0) ⟨?_, ?_, ?_, ?_, ?_, ?_, ?_, ?_, ?_, ?_, ?_, ?_, ?_, ?_, ?_, ?_, ?_, ?_, ?_, ?_, ?_, ?_, ?_, ?_, trivial⟩ ?_
  · intro a w hI
    have hI : SR _ _ _ _ a w := hI
    have e2 := hI.g 2 rfl
    have hw : w = W := hI.wp
    subst hw
    go_simp
    exact hI.put (d := 11) (by decide) (by simp)
  · intro a w hI
    have hI : SR _ _ _ _ a w := hI
    have e11 := hI.g 11 rfl
    have hw : w = W := hI.wp
    subst hw
    go_simp
    exact hI.put (d := 12) (by decide) (by simp)
  · intro a w hI
    have hI : SR _ _ _ _ a w := hI
    have e12 := hI.g 12 rfl
    have hw : w = W := hI.wp
    subst hw
    go_simp
    exact hI.put (d := 13) (by decide) (by simp)
  · intro a w hI
    have hI : SR _ _ _ _ a w := hI
    have e13 := hI.g 13 rfl
    have hw : w = W := hI.wp
    subst hw
    have z1 : ¬ (3000 : Int) < len := by omega
    go_simp
    exact hI.put (d := 14) (by decide) (by simp)
  · intro a w hI
    have hI : SR _ _ _ _ a w := hI
    have e14 := hI.g 14 rfl
    have hw : w = W := hI.wp
    subst hw
    go_simp
    exact hI.put (d := 15) (by decide) (by simp)
  · intro a w hI
    have hI : SR _ _ _ _ a w := hI
    have e1 := hI.g 1 rfl
    have e15 := hI.g 15 rfl
    have f15 := slot_bool e15
    have hw : w = W := hI.wp
    subst hw
    go_simp
    exact hI.put (d := 16) (by decide) (by simp)
  · intro a w hI
    have hI : SR _ _ _ _ a w := hI
    have e16 := hI.g 16 rfl
    have e15 := hI.g 15 rfl
    have f15 := slot_bool e15
    have hw : w = W := hI.wp
    subst hw
    have z2 : ¬ ((p : Int) < 0) := by omega
    go_simp
    exact hI.put (d := 17) (by decide) (by simp)
  · intro a w hI
    have hI : SR _ _ _ _ a w := hI
    have e15 := hI.g 15 rfl
    have e17 := hI.g 17 rfl
    have hw : w = W := hI.wp
    subst hw
    go_simp
    exact hI.put (d := 18) (by decide) (by simp)
  · intro a w hI
    have hI : SR _ _ _ _ a w := hI
    have e18 := hI.g 18 rfl
    have hw : w = W := hI.wp
    subst hw
    go_simp
    exact hI.put (d := 19) (by decide) (by simp)
  · intro a w hI
    have hI : SR _ _ _ _ a w := hI
    have e1 := hI.g 1 rfl
    have e19 := hI.g 19 rfl
    have f19 := slot_bool e19
    have hw : w = W := hI.wp
    subst hw
    go_simp
    exact hI.put (d := 20) (by decide) (by simp)
  · intro a w hI
    have hI : SR _ _ _ _ a w := hI
    have e2 := hI.g 2 rfl
    have e19 := hI.g 19 rfl
    have f19 := slot_bool e19
    have hw : w = W := hI.wp
    subst hw
    go_simp
    exact hI.put (d := 21) (by decide) (by simp)
  · intro a w hI
    have hI : SR _ _ _ _ a w := hI
    have e21 := hI.g 21 rfl
    have e19 := hI.g 19 rfl
    have f19 := slot_bool e19
    have hw : w = W := hI.wp
    subst hw
    go_simp
    exact hI.put (d := 22) (by decide) (by simp)
  · intro a w hI
    have hI : SR _ _ _ _ a w := hI
    have e22 := hI.g 22 rfl
    have e19 := hI.g 19 rfl
    have f19 := slot_bool e19
    have hw : w = W := hI.wp
    subst hw
    go_simp
    exact hI.put (d := 23) (by decide) (by simp)
  · intro a w hI
    have hI : SR _ _ _ _ a w := hI
    have e20 := hI.g 20 rfl
    have e23 := hI.g 23 rfl
    have e19 := hI.g 19 rfl
    have f19 := slot_bool e19
    have hw : w = W := hI.wp
    subst hw
    have z3 : ¬ ((len : Int) ≤ p) := by omega
    go_simp
    exact hI.put (d := 24) (by decide) (by simp)
  · intro a w hI
    have hI : SR _ _ _ _ a w := hI
    have e19 := hI.g 19 rfl
    have e24 := hI.g 24 rfl
    have hw : w = W := hI.wp
    subst hw
    go_simp
    exact hI.put (d := 25) (by decide) (by simp)
  · intro a w hI
    have hI : SR _ _ _ _ a w := hI
    have e25 := hI.g 25 rfl
    have hw : w = W := hI.wp
    subst hw
    go_simp
    exact hI.put (d := 26) (by decide) (by simp)
  · intro a w hI
    have hI : SR _ _ _ _ a w := hI
    have e2 := hI.g 2 rfl
    have e26 := hI.g 26 rfl
    have f26 := slot_bool e26
    have hw : w = W := hI.wp
    subst hw
    go_simp
    exact hI.put (d := 27) (by decide) (by simp)
  · intro a w hI
    have hI : SR _ _ _ _ a w := hI
    have e27 := hI.g 27 rfl
    have e26 := hI.g 26 rfl
    have f26 := slot_bool e26
    have hw : w = W := hI.wp
    subst hw
    go_simp
    exact hI.put (d := 28) (by decide) (by simp)
  · intro a w hI
    have hI : SR _ _ _ _ a w := hI
    have e1 := hI.g 1 rfl
    have e26 := hI.g 26 rfl
    have f26 := slot_bool e26
    have hw : w = W := hI.wp
    subst hw
    go_simp
    exact hI.put (d := 29) (by decide) (by simp)
  · intro a w hI
    have hI : SR _ _ _ _ a w := hI
    have e28 := hI.g 28 rfl
    have e29 := hI.g 29 rfl
    have e26 := hI.g 26 rfl
    have f26 := slot_bool e26
    have hw : w = W := hI.wp
    subst hw
    have q1_19 : (0 : Int) ≤ p := by omega
    have q2_19 : (p : Int) < len := by omega
    go_simp
    exact hI.put (d := 30) (by decide) (by simp)
  · intro a w hI
    have hI : SR _ _ _ _ a w := hI
    have e30 := hI.g 30 rfl
    have e26 := hI.g 26 rfl
    have f26 := slot_bool e26
    have hw : w = W := hI.wp
    subst hw
    go_simp
    exact hI.put (d := 31) (by decide) (by simp)
  · intro a w hI
    have hI : SR _ _ _ _ a w := hI
    have e26 := hI.g 26 rfl
    have f26 := slot_bool e26
    have hw : w = W := hI.wp
    subst hw
    go_simp
    exact hI.put (d := 32) (by decide) (by simp)
  · intro a w hI
    have hI : SR _ _ _ _ a w := hI
    have e31 := hI.g 31 rfl
    have e32 := hI.g 32 rfl
    have e26 := hI.g 26 rfl
    have f26 := slot_bool e26
    have hw : w = W := hI.wp
    subst hw
    have zk : ¬ (0 : Int) = k := by omega
    go_simp
    exact hI.put (d := 33) (by decide) (by simp)
  · intro a w hI
    have hI : SR _ _ _ _ a w := hI
    have e26 := hI.g 26 rfl
    have e33 := hI.g 33 rfl
    have hw : w = W := hI.wp
    subst hw
    go_simp
    exact hI.put (d := 34) (by decide) (by simp)
  · intro a w hI
    have hI : SR _ _ _ _ a w := hI
    have hw : w = W := hI.wp
    subst hw
    exact hQ a hI
set_option maxRecDepth 100000 in
set_option maxHeartbeats 4000000 in
theorem u1f (n : Nat) (W : World) (B g off len cap p : Nat) (h : ¬ 3000 < len) (hl : p < len) (v : Nat) (hv : ¬ v = 0) (c3 : W.cell? ⟨B, 3, none⟩ = some (.slice (some ⟨g, off, none⟩) len cap)) (ca0 : W.cell? ⟨g, off + p * 2, none⟩ = some (.int .u8 0)) (ca1 : W.cell? ⟨g, off + p * 2 + 1, none⟩ = some (.int .u8 v)) (Q : Exit → Act → World → Prop) (a : Act) (h0 : SR [(1, .int .i64 p), (2, .pointer (some ⟨B, 0, none⟩))] 120 [] W a W)
    (hQ : ∀ a, SR [(1, .int .i64 p), (2, .pointer (some ⟨B, 0, none⟩)), (34, .bool true)] 120 [] (W) a (W) → Q .normal a (W)) : (regOf 1 C8).wpIn Fence.wide n Try.prog Q a W := by
  simp only [regOf, C8, Try.f8, Option.getD, Nat.reduceBEq, Bool.false_eq_true, if_true, if_false]
  refine region_sq (fun k_ a w => match k_ with | 0 => SR [(1, .int .i64 p), (2, .pointer (some ⟨B, 0, none⟩))] 120 [] (W) a w | 1 => SR [(1, .int .i64 p), (2, .pointer (some ⟨B, 0, none⟩)), (11, .pointer (some ⟨B, 3, none⟩))] 120 [] (W) a w | 2 => SR [(1, .int .i64 p), (2, .pointer (some ⟨B, 0, none⟩)), (12, .slice (some ⟨g, off, none⟩) len cap)] 120 [] (W) a w | 3 => SR [(1, .int .i64 p), (2, .pointer (some ⟨B, 0, none⟩)), (13, .int .i64 len)] 120 [] (W) a w | 4 => SR [(1, .int .i64 p), (2, .pointer (some ⟨B, 0, none⟩)), (14, .bool false)] 120 [] (W) a w | 5 => SR [(1, .int .i64 p), (2, .pointer (some ⟨B, 0, none⟩)), (15, .bool false)] 120 [] (W) a w | 6 => SR [(1, .int .i64 p), (2, .pointer (some ⟨B, 0, none⟩)), (15, .bool false), (16, .int .i64 p)] 120 [] (W) a w | 7 => SR [(1, .int .i64 p), (2, .pointer (some ⟨B, 0, none⟩)), (15, .bool false), (17, .bool false)] 120 [] (W) a w | 8 => SR [(1, .int .i64 p), (2, .pointer (some ⟨B, 0, none⟩)), (18, .bool false)] 120 [] (W) a w | 9 => SR [(1, .int .i64 p), (2, .pointer (some ⟨B, 0, none⟩)), (19, .bool false)] 120 [] (W) a w | 10 => SR [(1, .int .i64 p), (2, .pointer (some ⟨B, 0, none⟩)), (19, .bool false), (20, .int .i64 p)] 120 [] (W) a w | 11 => SR [(1, .int .i64 p), (2, .pointer (some ⟨B, 0, none⟩)), (19, .bool false), (20, .int .i64 p), (21, .pointer (some ⟨B, 3, none⟩))] 120 [] (W) a w | 12 => SR [(1, .int .i64 p), (2, .pointer (some ⟨B, 0, none⟩)), (19, .bool false), (20, .int .i64 p), (22, .slice (some ⟨g, off, none⟩) len cap)] 120 [] (W) a w | 13 => SR [(1, .int .i64 p), (2, .pointer (some ⟨B, 0, none⟩)), (19, .bool false), (20, .int .i64 p), (23, .int .i64 len)] 120 [] (W) a w | 14 => SR [(1, .int .i64 p), (2, .pointer (some ⟨B, 0, none⟩)), (19, .bool false), (24, .bool false)] 120 [] (W) a w | 15 => SR [(1, .int .i64 p), (2, .pointer (some ⟨B, 0, none⟩)), (25, .bool false)] 120 [] (W) a w | 16 => SR [(1, .int .i64 p), (2, .pointer (some ⟨B, 0, none⟩)), (26, .bool false)] 120 [] (W) a w | 17 => SR [(1, .int .i64 p), (2, .pointer (some ⟨B, 0, none⟩)), (26, .bool false), (27, .pointer (some ⟨B, 3, none⟩))] 120 [] (W) a w | 18 => SR [(1, .int .i64 p), (2, .pointer (some ⟨B, 0, none⟩)), (26, .bool false), (28, .slice (some ⟨g, off, none⟩) len cap)] 120 [] (W) a w | 19 => SR [(1, .int .i64 p), (2, .pointer (some ⟨B, 0, none⟩)), (26, .bool false), (28, .slice (some ⟨g, off, none⟩) len cap), (29, .int .i64 p)] 120 [] (W) a w | 20 => SR [(1, .int .i64 p), (2, .pointer (some ⟨B, 0, none⟩)), (26, .bool false), (30, .pointer (some ⟨g, off + p * 2, none⟩))] 120 [] (W) a w | 21 => SR [(1, .int .i64 p), (2, .pointer (some ⟨B, 0, none⟩)), (26, .bool false), (31, .agg #[.int .u8 0, .int .u8 v])] 120 [] (W) a w | 22 => SR [(1, .int .i64 p), (2, .pointer (some ⟨B, 0, none⟩)), (26, .bool false), (31, .agg #[.int .u8 0, .int .u8 v]), (32, .agg #[.int .u8 0, .int .u8 0])] 120 [] (W) a w | 23 => SR [(1, .int .i64 p), (2, .pointer (some ⟨B, 0, none⟩)), (26, .bool false), (33, .bool true)] 120 [] (W) a w | _ => SR [(1, .int .i64 p), (2, .pointer (some ⟨B, 0, none⟩)), (34, .bool true)] 120 [] (W) a w) (show SR _ _ _ _ a W from h0) ⟨?_, ?_, ?_, ?_, ?_, ?_, ?_, ?_, ?_, ?_, ?_, ?_, ?_, ?_, ?_, ?_, ?_, ?_, ?_, ?_, ?_, ?_, ?_, ?_, trivial⟩ ?_
  · intro a w hI
    have hI : SR _ _ _ _ a w := hI
    have e2 := hI.g 2 rfl
    have hw : w = W := hI.wp
    subst hw
    go_simp
    exact hI.put (d := 11) (by decide) (by simp)
  · intro a w hI
    have hI : SR _ _ _ _ a w := hI
    have e11 := hI.g 11 rfl
    have hw : w = W := hI.wp
    subst hw
    go_simp
    exact hI.put (d := 12) (by decide) (by simp)
  · intro a w hI
    have hI : SR _ _ _ _ a w := hI
    have e12 := hI.g 12 rfl
    have hw : w = W := hI.wp
    subst hw
    go_simp
    exact hI.put (d := 13) (by decide) (by simp)
  · intro a w hI
    have hI : SR _ _ _ _ a w := hI
    have e13 := hI.g 13 rfl
    have hw : w = W := hI.wp
    subst hw
    have z1 : ¬ (3000 : Int) < len := by omega
    go_simp
    exact hI.put (d := 14) (by decide) (by simp)
  · intro a w hI
    have hI : SR _ _ _ _ a w := hI
    have e14 := hI.g 14 rfl
    have hw : w = W := hI.wp
    subst hw
    go_simp
    exact hI.put (d := 15) (by decide) (by simp)
  · intro a w hI
    have hI : SR _ _ _ _ a w := hI
    have e1 := hI.g 1 rfl
    have e15 := hI.g 15 rfl
    have f15 := slot_bool e15
    have hw : w = W := hI.wp
    subst hw
    go_simp
    exact hI.put (d := 16) (by decide) (by simp)
  · intro a w hI
    have hI : SR _ _ _ _ a w := hI
    have e16 := hI.g 16 rfl
    have e15 := hI.g 15 rfl
    have f15 := slot_bool e15
    have hw : w = W := hI.wp
    subst hw
    have z2 : ¬ ((p : Int) < 0) := by omega
    go_simp
    exact hI.put (d := 17) (by decide) (by simp)
  · intro a w hI
    have hI : SR _ _ _ _ a w := hI
    have e15 := hI.g 15 rfl
    have e17 := hI.g 17 rfl
    have hw : w = W := hI.wp
    subst hw
    go_simp
    exact hI.put (d := 18) (by decide) (by simp)
  · intro a w hI
    have hI : SR _ _ _ _ a w := hI
    have e18 := hI.g 18 rfl
    have hw : w = W := hI.wp
    subst hw
    go_simp
    exact hI.put (d := 19) (by decide) (by simp)
  · intro a w hI
    have hI : SR _ _ _ _ a w := hI
    have e1 := hI.g 1 rfl
    have e19 := hI.g 19 rfl
    have f19 := slot_bool e19
    have hw : w = W := hI.wp
    subst hw
    go_simp
    exact hI.put (d := 20) (by decide) (by simp)
  · intro a w hI
    have hI : SR _ _ _ _ a w := hI
    have e2 := hI.g 2 rfl
    have e19 := hI.g 19 rfl
    have f19 := slot_bool e19
    have hw : w = W := hI.wp
    subst hw
    go_simp
    exact hI.put (d := 21) (by decide) (by simp)
  · intro a w hI
    have hI : SR _ _ _ _ a w := hI
    have e21 := hI.g 21 rfl
    have e19 := hI.g 19 rfl
    have f19 := slot_bool e19
    have hw : w = W := hI.wp
    subst hw
    go_simp
    exact hI.put (d := 22) (by decide) (by simp)
  · intro a w hI
    have hI : SR _ _ _ _ a w := hI
    have e22 := hI.g 22 rfl
    have e19 := hI.g 19 rfl
    have f19 := slot_bool e19
    have hw : w = W := hI.wp
    subst hw
    go_simp
    exact hI.put (d := 23) (by decide) (by simp)
  · intro a w hI
    have hI : SR _ _ _ _ a w := hI
    have e20 := hI.g 20 rfl
    have e23 := hI.g 23 rfl
    have e19 := hI.g 19 rfl
    have f19 := slot_bool e19
    have hw : w = W := hI.wp
    subst hw
    have z3 : ¬ ((len : Int) ≤ p) := by omega
    go_simp
    exact hI.put (d := 24) (by decide) (by simp)
  · intro a w hI
    have hI : SR _ _ _ _ a w := hI
    have e19 := hI.g 19 rfl
    have e24 := hI.g 24 rfl
    have hw : w = W := hI.wp
    subst hw
    go_simp
    exact hI.put (d := 25) (by decide) (by simp)
  · intro a w hI
    have hI : SR _ _ _ _ a w := hI
    have e25 := hI.g 25 rfl
    have hw : w = W := hI.wp
    subst hw
    go_simp
    exact hI.put (d := 26) (by decide) (by simp)
  · intro a w hI
    have hI : SR _ _ _ _ a w := hI
    have e2 := hI.g 2 rfl
    have e26 := hI.g 26 rfl
    have f26 := slot_bool e26
    have hw : w = W := hI.wp
    subst hw
    go_simp
    exact hI.put (d := 27) (by decide) (by simp)
  · intro a w hI
    have hI : SR _ _ _ _ a w := hI
    have e27 := hI.g 27 rfl
    have e26 := hI.g 26 rfl
    have f26 := slot_bool e26
    have hw : w = W := hI.wp
    subst hw
    go_simp
    exact hI.put (d := 28) (by decide) (by simp)
  · intro a w hI
    have hI : SR _ _ _ _ a w := hI
    have e1 := hI.g 1 rfl
    have e26 := hI.g 26 rfl
    have f26 := slot_bool e26
    have hw : w = W := hI.wp
    subst hw
    go_simp
    exact hI.put (d := 29) (by decide) (by simp)
  · intro a w hI
    have hI : SR _ _ _ _ a w := hI
    have e28 := hI.g 28 rfl
    have e29 := hI.g 29 rfl
    have e26 := hI.g 26 rfl
    have f26 := slot_bool e26
    have hw : w = W := hI.wp
    subst hw
    have q1_19 : (0 : Int) ≤ p := by omega
    have q2_19 : (p : Int) < len := by omega
    go_simp
    exact hI.put (d := 30) (by decide) (by simp)
  · intro a w hI
    have hI : SR _ _ _ _ a w := hI
    have e30 := hI.g 30 rfl
    have e26 := hI.g 26 rfl
    have f26 := slot_bool e26
    have hw : w = W := hI.wp
    subst hw
    go_simp
    exact hI.put (d := 31) (by decide) (by simp)
  · intro a w hI
    have hI : SR _ _ _ _ a w := hI
    have e26 := hI.g 26 rfl
    have f26 := slot_bool e26
    have hw : w = W := hI.wp
    subst hw
    go_simp
    exact hI.put (d := 32) (by decide) (by simp)
  · intro a w hI
    have hI : SR _ _ _ _ a w := hI
    have e31 := hI.g 31 rfl
    have e32 := hI.g 32 rfl
    have e26 := hI.g 26 rfl
    have f26 := slot_bool e26
    have hw : w = W := hI.wp
    subst hw
    have zv : ¬ (0 : Int) = v := by omega
    go_simp
    exact hI.put (d := 33) (by decide) (by simp)
  · intro a w hI
    have hI : SR _ _ _ _ a w := hI
    have e26 := hI.g 26 rfl
    have e33 := hI.g 33 rfl
    have hw : w = W := hI.wp
    subst hw
    go_simp
    exact hI.put (d := 34) (by decide) (by simp)
  · intro a w hI
    have hI : SR _ _ _ _ a w := hI
    have hw : w = W := hI.wp
    subst hw
    exact hQ a hI
set_option maxRecDepth 100000 in
set_option maxHeartbeats 4000000 in
theorem u2 (n : Nat) {G : World → Prop} (hS : Stable G)  (hw : ∀ m w, G w → CallsIn Fence.wide m Try.prog 13 #[] w fun e w' => e = .returned (.bool true) ∧ Below w.heap.size w w') (Q : Exit → Act → World → Prop) (a : Act) (w : World) (h0 : SG [] 120 G a w)
    (hQ : ∀ a w, SG [(4, .bool true)] 120 G a w → Q .normal a w) : (regOf 2 C8).wpIn Fence.wide n Try.prog Q a w := by
  simp only [regOf, C8, Try.f8, Option.getD, Nat.reduceBEq, Bool.false_eq_true, if_true, if_false]
  refine region_sq (fun k_ a w => match k_ with | 0 => SG [] 120 G a w | 1 => SG [(35, .bool true)] 120 G a w | _ => SG [(4, .bool true)] 120 G a w) (show SG _ _ G a w from h0) ⟨?_, ?_, trivial⟩ ?_
  · intro a w hI
    have hI : SG _ _ G a w := hI
    go_simp
    refine ⟨trivial, fun h => (by cases h), (hw (n - 1) w hI.wp).mono ?_⟩
    rintro e w' ⟨rfl, hb2⟩
    exact hI.put (d := 35) (by decide) (by simp) (hS _ _ hI.wp hb2)
  · intro a w hI
    have hI : SG _ _ G a w := hI
    have e35 := hI.g 35 rfl
    go_simp
    exact hI.put (d := 4) (by decide) (by simp) hI.wp
  · intro a w hI
    have hI : SG _ _ G a w := hI
    exact hQ a w hI
set_option maxRecDepth 100000 in
set_option maxHeartbeats 4000000 in
theorem u3b (n : Nat) {G : World → Prop} (hS : Stable G) (p : Int) (B : Nat) (X Y Z : Int) (sp : Option Addr) (len cap : Nat) (er : Int) (c0 : ∀ w, G w → w.cell? ⟨B, 0, none⟩ = some (.int .i64 X)) (c1 : ∀ w, G w → w.cell? ⟨B, 1, none⟩ = some (.int .i64 Y)) (c2_ : ∀ w, G w → w.cell? ⟨B, 2, none⟩ = some (.int .i64 Z)) (c3 : ∀ w, G w → w.cell? ⟨B, 3, none⟩ = some (.slice sp len cap)) (hc : ∀ m w, G w → CallsIn Fence.wide m Try.prog 14 #[.agg #[.int .i64 X, .int .i64 Y, .int .i64 Z, .slice sp len cap]] w fun e w' => e = .returned (.tuple #[.slice none 0 0, .int .i64 er]) ∧ Below w.heap.size w w') (Q : Exit → Act → World → Prop) (a : Act) (w : World) (h0 : SG [(1, .int .i64 p), (2, .pointer (some ⟨B, 0, none⟩))] 120 G a w)
    (hQ : ∀ a w, SG [(1, .int .i64 p), (2, .pointer (some ⟨B, 0, none⟩)), (6, .int .i64 er)] 120 G a w → Q .normal a w) : (regOf 3 C8).wpIn Fence.wide n Try.prog Q a w := by
  simp only [regOf, C8, Try.f8, Option.getD, Nat.reduceBEq, Bool.false_eq_true, if_true, if_false]
  refine region_sq (fun k_ a w => match k_ with | 0 => SG [(1, .int .i64 p), (2, .pointer (some ⟨B, 0, none⟩))] 120 G a w | 1 => SG [(1, .int .i64 p), (2, .pointer (some ⟨B, 0, none⟩)), (37, .agg #[.int .i64 X, .int .i64 Y, .int .i64 Z, .slice sp len cap])] 120 G a w | 2 => SG [(1, .int .i64 p), (2, .pointer (some ⟨B, 0, none⟩)), (38, .tuple #[.slice none 0 0, .int .i64 er])] 120 G a w | 3 => SG [(1, .int .i64 p), (2, .pointer (some ⟨B, 0, none⟩)), (36, .tuple #[.slice none 0 0, .int .i64 er])] 120 G a w | 4 => SG [(1, .int .i64 p), (2, .pointer (some ⟨B, 0, none⟩)), (36, .tuple #[.slice none 0 0, .int .i64 er]), (39, .slice none 0 0)] 120 G a w | 5 => SG [(1, .int .i64 p), (2, .pointer (some ⟨B, 0, none⟩)), (39, .slice none 0 0), (40, .int .i64 er)] 120 G a w | 6 => SG [(1, .int .i64 p), (2, .pointer (some ⟨B, 0, none⟩)), (40, .int .i64 er)] 120 G a w | _ => SG [(1, .int .i64 p), (2, .pointer (some ⟨B, 0, none⟩)), (6, .int .i64 er)] 120 G a w) (show SG _ _ G a w from h0) ⟨?_, ?_, ?_, ?_, ?_, ?_, ?_, trivial⟩ ?_
  · intro a w hI
    have hI : SG _ _ G a w := hI
    have e2 := hI.g 2 rfl
    have cc0 := c0 w hI.wp
    have cc1 := c1 w hI.wp
    have cc2 := c2_ w hI.wp
    have cc3 := c3 w hI.wp
    go_simp
    exact hI.put (d := 37) (by decide) (by simp) hI.wp
  · intro a w hI
    have hI : SG _ _ G a w := hI
    have e37 := hI.g 37 rfl
    go_simp
    refine ⟨trivial, fun h => (by cases h), (hc (n - 1) w hI.wp).mono ?_⟩
    rintro e w' ⟨rfl, hb2⟩
    exact hI.put (d := 38) (by decide) (by simp) (hS _ _ hI.wp hb2)
  · intro a w hI
    have hI : SG _ _ G a w := hI
    have e38 := hI.g 38 rfl
    go_simp
    exact hI.put (d := 36) (by decide) (by simp) hI.wp
  · intro a w hI
    have hI : SG _ _ G a w := hI
    have e36 := hI.g 36 rfl
    go_simp
    exact hI.put (d := 39) (by decide) (by simp) hI.wp
  · intro a w hI
    have hI : SG _ _ G a w := hI
    have e36 := hI.g 36 rfl
    go_simp
    exact hI.put (d := 40) (by decide) (by simp) hI.wp
  · intro a w hI
    have hI : SG _ _ G a w := hI
    have e39 := hI.g 39 rfl
    go_simp
    exact hI.put (d := 5) (by decide) (by simp) hI.wp
  · intro a w hI
    have hI : SG _ _ G a w := hI
    have e40 := hI.g 40 rfl
    go_simp
    exact hI.put (d := 6) (by decide) (by simp) hI.wp
  · intro a w hI
    have hI : SG _ _ G a w := hI
    exact hQ a w hI
set_option maxRecDepth 100000 in
set_option maxHeartbeats 4000000 in
theorem u3 (n : Nat) {G : World → Prop} (p : Nat) (B : Nat) (X Y Z : Int) (sp : Option Addr) (len cap : Nat) (N : Nat) (G1 : Nat → World → Prop) (c0 : ∀ w, G w → w.cell? ⟨B, 0, none⟩ = some (.int .i64 X)) (c1 : ∀ w, G w → w.cell? ⟨B, 1, none⟩ = some (.int .i64 Y)) (c2_ : ∀ w, G w → w.cell? ⟨B, 2, none⟩ = some (.int .i64 Z)) (c3 : ∀ w, G w → w.cell? ⟨B, 3, none⟩ = some (.slice sp len cap)) (hc : ∀ m w, G w → CallsIn Fence.wide m Try.prog 14 #[.agg #[.int .i64 X, .int .i64 Y, .int .i64 Z, .slice sp len cap]] w fun e w' => ∃ (r : Nat), e = .returned (.tuple #[.slice (some ⟨r, 0, none⟩) N N, .int .i64 0]) ∧ (G1 r) w') (Q : Exit → Act → World → Prop) (a : Act) (w : World) (h0 : SG [(1, .int .i64 p), (2, .pointer (some ⟨B, 0, none⟩))] 120 G a w)
    (hQ : ∀ (r : Nat) a w, SG [(1, .int .i64 p), (2, .pointer (some ⟨B, 0, none⟩)), (5, .slice (some ⟨r, 0, none⟩) N N), (6, .int .i64 0)] 120 (G1 r) a w → Q .normal a w) : (regOf 3 C8).wpIn Fence.wide n Try.prog Q a w := by
  simp only [regOf, C8, Try.f8, Option.getD, Nat.reduceBEq, Bool.false_eq_true, if_true, if_false]
  refine region_sq (fun k_ a w => match k_ with | 0 => SG [(1, .int .i64 p), (2, .pointer (some ⟨B, 0, none⟩))] 120 G a w | 1 => SG [(1, .int .i64 p), (2, .pointer (some ⟨B, 0, none⟩)), (37, .agg #[.int .i64 X, .int .i64 Y, .int .i64 Z, .slice sp len cap])] 120 G a w | 2 => ∃ (r : Nat), SG [(1, .int .i64 p), (2, .pointer (some ⟨B, 0, none⟩)), (38, .tuple #[.slice (some ⟨r, 0, none⟩) N N, .int .i64 0])] 120 (G1 r) a w | 3 => ∃ (r : Nat), SG [(1, .int .i64 p), (2, .pointer (some ⟨B, 0, none⟩)), (36, .tuple #[.slice (some ⟨r, 0, none⟩) N N, .int .i64 0])] 120 (G1 r) a w | 4 => ∃ (r : Nat), SG [(1, .int .i64 p), (2, .pointer (some ⟨B, 0, none⟩)), (36, .tuple #[.slice (some ⟨r, 0, none⟩) N N, .int .i64 0]), (39, .slice (some ⟨r, 0, none⟩) N N)] 120 (G1 r) a w | 5 => ∃ (r : Nat), SG [(1, .int .i64 p), (2, .pointer (some ⟨B, 0, none⟩)), (39, .slice (some ⟨r, 0, none⟩) N N), (40, .int .i64 0)] 120 (G1 r) a w | 6 => ∃ (r : Nat), SG [(1, .int .i64 p), (2, .pointer (some ⟨B, 0, none⟩)), (40, .int .i64 0), (5, .slice (some ⟨r, 0, none⟩) N N)] 120 (G1 r) a w | _ => ∃ (r : Nat), SG [(1, .int .i64 p), (2, .pointer (some ⟨B, 0, none⟩)), (5, .slice (some ⟨r, 0, none⟩) N N), (6, .int .i64 0)] 120 (G1 r) a w) (show SG _ _ G a w from h0) ⟨?_, ?_, ?_, ?_, ?_, ?_, ?_, trivial⟩ ?_
  · intro a w hI
    have hI : SG _ _ G a w := hI
    have e2 := hI.g 2 rfl
    have cc0 := c0 w hI.wp
    have cc1 := c1 w hI.wp
    have cc2 := c2_ w hI.wp
    have cc3 := c3 w hI.wp
    go_simp
    exact hI.put (d := 37) (by decide) (by simp) hI.wp
  · intro a w hI
    have hI : SG _ _ G a w := hI
    have e37 := hI.g 37 rfl
    go_simp
    refine ⟨trivial, fun h => (by cases h), (hc (n - 1) w hI.wp).mono ?_⟩
    rintro e w' ⟨r, rfl, hg2⟩
    exact ⟨r, hI.put (d := 38) (by decide) (by simp) hg2⟩
  · rintro a w ⟨r, hI⟩
    have e38 := hI.g 38 rfl
    go_simp
    exact ⟨r, hI.put (d := 36) (by decide) (by simp) hI.wp⟩
  · rintro a w ⟨r, hI⟩
    have e36 := hI.g 36 rfl
    go_simp
    exact ⟨r, hI.put (d := 39) (by decide) (by simp) hI.wp⟩
  · rintro a w ⟨r, hI⟩
    have e36 := hI.g 36 rfl
    go_simp
    exact ⟨r, hI.put (d := 40) (by decide) (by simp) hI.wp⟩
  · rintro a w ⟨r, hI⟩
    have e39 := hI.g 39 rfl
    go_simp
    exact ⟨r, hI.put (d := 5) (by decide) (by simp) hI.wp⟩
  · rintro a w ⟨r, hI⟩
    have e40 := hI.g 40 rfl
    go_simp
    exact ⟨r, hI.put (d := 6) (by decide) (by simp) hI.wp⟩
  · rintro a w ⟨r, hI⟩
    exact hQ r a w hI
set_option maxRecDepth 100000 in
set_option maxHeartbeats 4000000 in
theorem u4 (n : Nat) (W : World) (er : Int) (Q : Exit → Act → World → Prop) (a : Act) (h0 : SR [(6, .int .i64 er)] 120 [] W a W)
    (hQ : ∀ a, SR [(42, .bool (er != 0))] 120 [] (W) a (W) → Q .normal a (W)) : (regOf 4 C8).wpIn Fence.wide n Try.prog Q a W := by
  simp only [regOf, C8, Try.f8, Option.getD, Nat.reduceBEq, Bool.false_eq_true, if_true, if_false]
  refine region_sq (fun k_ a w => match k_ with | 0 => SR [(6, .int .i64 er)] 120 [] (W) a w | 1 => SR [(41, .int .i64 er)] 120 [] (W) a w | _ => SR [(42, .bool (er != 0))] 120 [] (W) a w) (show SR _ _ _ _ a W from h0) ⟨?_, ?_, trivial⟩ ?_
  · intro a w hI
    have hI : SR _ _ _ _ a w := hI
    have e6 := hI.g 6 rfl
    have hw : w = W := hI.wp
    subst hw
    go_simp
    exact hI.put (d := 41) (by decide) (by simp)
  · intro a w hI
    have hI : SR _ _ _ _ a w := hI
    have e41 := hI.g 41 rfl
    have hw : w = W := hI.wp
    subst hw
    go_simp
    exact hI.put (d := 42) (by decide) (by simp)
  · intro a w hI
    have hI : SR _ _ _ _ a w := hI
    have hw : w = W := hI.wp
    subst hw
    exact hQ a hI
set_option maxRecDepth 100000 in
set_option maxHeartbeats 4000000 in
theorem u4g (n : Nat) (W : World) (B p r N : Nat) (er : Int) (Q : Exit → Act → World → Prop) (a : Act) (h0 : SR [(1, .int .i64 p), (2, .pointer (some ⟨B, 0, none⟩)), (5, .slice (some ⟨r, 0, none⟩) N N), (6, .int .i64 er)] 120 [] W a W)
    (hQ : ∀ a, SR [(1, .int .i64 p), (2, .pointer (some ⟨B, 0, none⟩)), (5, .slice (some ⟨r, 0, none⟩) N N), (42, .bool (er != 0))] 120 [] (W) a (W) → Q .normal a (W)) : (regOf 4 C8).wpIn Fence.wide n Try.prog Q a W := by
  simp only [regOf, C8, Try.f8, Option.getD, Nat.reduceBEq, Bool.false_eq_true, if_true, if_false]
  refine region_sq (fun k_ a w => match k_ with | 0 => SR [(1, .int .i64 p), (2, .pointer (some ⟨B, 0, none⟩)), (5, .slice (some ⟨r, 0, none⟩) N N), (6, .int .i64 er)] 120 [] (W) a w | 1 => SR [(1, .int .i64 p), (2, .pointer (some ⟨B, 0, none⟩)), (5, .slice (some ⟨r, 0, none⟩) N N), (41, .int .i64 er)] 120 [] (W) a w | _ => SR [(1, .int .i64 p), (2, .pointer (some ⟨B, 0, none⟩)), (5, .slice (some ⟨r, 0, none⟩) N N), (42, .bool (er != 0))] 120 [] (W) a w) (show SR _ _ _ _ a W from h0) ⟨?_, ?_, trivial⟩ ?_
  · intro a w hI
    have hI : SR _ _ _ _ a w := hI
    have e6 := hI.g 6 rfl
    have hw : w = W := hI.wp
    subst hw
    go_simp
    exact hI.put (d := 41) (by decide) (by simp)
  · intro a w hI
    have hI : SR _ _ _ _ a w := hI
    have e41 := hI.g 41 rfl
    have hw : w = W := hI.wp
    subst hw
    go_simp
    exact hI.put (d := 42) (by decide) (by simp)
  · intro a w hI
    have hI : SR _ _ _ _ a w := hI
    have hw : w = W := hI.wp
    subst hw
    exact hQ a hI
set_option maxRecDepth 100000 in
set_option maxHeartbeats 4000000 in
theorem u5 (n : Nat) {G : World → Prop} (hS : Stable G)  (hw : ∀ m w, G w → CallsIn Fence.wide m Try.prog 13 #[] w fun e w' => e = .returned (.bool true) ∧ Below w.heap.size w w') (Q : Exit → Act → World → Prop) (a : Act) (w : World) (h0 : SG [] 120 G a w)
    (hQ : ∀ a w, SG [(4, .bool true)] 120 G a w → Q .normal a w) : (regOf 5 C8).wpIn Fence.wide n Try.prog Q a w := by
  simp only [regOf, C8, Try.f8, Option.getD, Nat.reduceBEq, Bool.false_eq_true, if_true, if_false]
  refine region_sq (fun k_ a w => match k_ with | 0 => SG [] 120 G a w | 1 => SG [(43, .bool true)] 120 G a w | _ => SG [(4, .bool true)] 120 G a w) (show SG _ _ G a w from h0) ⟨?_, ?_, trivial⟩ ?_
  · intro a w hI
    have hI : SG _ _ G a w := hI
    go_simp
    refine ⟨trivial, fun h => (by cases h), (hw (n - 1) w hI.wp).mono ?_⟩
    rintro e w' ⟨rfl, hb2⟩
    exact hI.put (d := 43) (by decide) (by simp) (hS _ _ hI.wp hb2)
  · intro a w hI
    have hI : SG _ _ G a w := hI
    have e43 := hI.g 43 rfl
    go_simp
    exact hI.put (d := 4) (by decide) (by simp) hI.wp
  · intro a w hI
    have hI : SG _ _ G a w := hI
    exact hQ a w hI
set_option maxRecDepth 100000 in
set_option maxHeartbeats 4000000 in
theorem u6 (n : Nat) (W : World) (B p r N : Nat) (Q : Exit → Act → World → Prop) (a : Act) (h0 : SR [(1, .int .i64 p), (2, .pointer (some ⟨B, 0, none⟩)), (5, .slice (some ⟨r, 0, none⟩) N N)] 120 [] W a W)
    (hQ : ∀ a, SR [(1, .int .i64 p), (2, .pointer (some ⟨B, 0, none⟩)), (5, .slice (some ⟨r, 0, none⟩) N N), (7, .slice none 0 0)] 120 [] (W) a (W) → Q .normal a (W)) : (regOf 6 C8).wpIn Fence.wide n Try.prog Q a W := by
  simp only [regOf, C8, Try.f8, Option.getD, Nat.reduceBEq, Bool.false_eq_true, if_true, if_false]
  refine region_sq (fun k_ a w => match k_ with | 0 => SR [(1, .int .i64 p), (2, .pointer (some ⟨B, 0, none⟩)), (5, .slice (some ⟨r, 0, none⟩) N N)] 120 [] (W) a w | _ => SR [(1, .int .i64 p), (2, .pointer (some ⟨B, 0, none⟩)), (5, .slice (some ⟨r, 0, none⟩) N N), (7, .slice none 0 0)] 120 [] (W) a w) (show SR _ _ _ _ a W from h0) ⟨?_, trivial⟩ ?_
  · intro a w hI
    have hI : SR _ _ _ _ a w := hI
    have hw : w = W := hI.wp
    subst hw
    go_simp
    exact hI.put (d := 7) (by decide) (by simp)
  · intro a w hI
    have hI : SR _ _ _ _ a w := hI
    have hw : w = W := hI.wp
    subst hw
    exact hQ a hI
set_option maxRecDepth 100000 in
set_option maxHeartbeats 4000000 in
theorem u7 (n : Nat) {G : World → Prop} (B p r N g off cap : Nat) (c3 : ∀ w, G w → w.cell? ⟨B, 3, none⟩ = some (.slice (some ⟨g, off, none⟩) N cap)) (news : List Value) (hnl : news.length = N * 2) (hnews : ∀ w, G w → ∀ j u, news[j]? = some u → w.cell? ⟨g, off + j, none⟩ = some u) (hone : ∀ u ∈ news, u.oneCell' = true) (hN : 0 < N) (hN2 : N ≤ 262144) (G1 : Nat → Nat → Array Value → World → Prop) (hst : ∀ w w' c2 cur, G w → Below w.heap.size w w' → w'.heap[w.heap.size]? = some (.cells cur 32 (0, 0)) → cur.size = c2 * 2 → N ≤ c2 → cur.toList.take (N * 2) = news → G1 w.heap.size c2 cur w') (Q : Exit → Act → World → Prop) (a : Act) (w : World) (h0 : SG [(1, .int .i64 p), (2, .pointer (some ⟨B, 0, none⟩)), (5, .slice (some ⟨r, 0, none⟩) N N), (7, .slice none 0 0)] 120 G a w)
    (hQ : ∀ g2 c2 cur a w, SG [(1, .int .i64 p), (2, .pointer (some ⟨B, 0, none⟩)), (5, .slice (some ⟨r, 0, none⟩) N N), (7, .slice (some ⟨g2, 0, none⟩) N c2)] 120 (G1 g2 c2 cur) a w → Q .normal a w) : (regOf 7 C8).wpIn Fence.wide n Try.prog Q a w := by
  obtain ⟨i0, hi, hz0, hz1, hz2⟩ := info_parts info32
  simp only [regOf, C8, Try.f8, Option.getD, Nat.reduceBEq, Bool.false_eq_true, if_true, if_false]
  refine region_sq (fun k_ a w => match k_ with | 0 => SG [(1, .int .i64 p), (2, .pointer (some ⟨B, 0, none⟩)), (5, .slice (some ⟨r, 0, none⟩) N N), (7, .slice none 0 0)] 120 G a w | 1 => SG [(1, .int .i64 p), (2, .pointer (some ⟨B, 0, none⟩)), (5, .slice (some ⟨r, 0, none⟩) N N), (44, .slice none 0 0)] 120 G a w | 2 => SG [(1, .int .i64 p), (2, .pointer (some ⟨B, 0, none⟩)), (5, .slice (some ⟨r, 0, none⟩) N N), (44, .slice none 0 0), (45, .pointer (some ⟨B, 3, none⟩))] 120 G a w | 3 => SG [(1, .int .i64 p), (2, .pointer (some ⟨B, 0, none⟩)), (5, .slice (some ⟨r, 0, none⟩) N N), (44, .slice none 0 0), (46, .slice (some ⟨g, off, none⟩) N cap)] 120 G a w | 4 => ∃ g2 c2 cur, SG [(1, .int .i64 p), (2, .pointer (some ⟨B, 0, none⟩)), (5, .slice (some ⟨r, 0, none⟩) N N), (47, .slice (some ⟨g2, 0, none⟩) N c2)] 120 (G1 g2 c2 cur) a w | _ => ∃ g2 c2 cur, SG [(1, .int .i64 p), (2, .pointer (some ⟨B, 0, none⟩)), (5, .slice (some ⟨r, 0, none⟩) N N), (7, .slice (some ⟨g2, 0, none⟩) N c2)] 120 (G1 g2 c2 cur) a w) (show SG _ _ G a w from h0) ⟨?_, ?_, ?_, ?_, ?_, trivial⟩ ?_
  · intro a w hI
    have hI : SG _ _ G a w := hI
    have e7 := hI.g 7 rfl
    go_simp
    exact hI.put (d := 44) (by decide) (by simp) hI.wp
  · intro a w hI
    have hI : SG _ _ G a w := hI
    have e2 := hI.g 2 rfl
    go_simp
    exact hI.put (d := 45) (by decide) (by simp) hI.wp
  · intro a w hI
    have hI : SG _ _ G a w := hI
    have e45 := hI.g 45 rfl
    have cc0 := c3 w hI.wp
    go_simp
    exact hI.put (d := 46) (by decide) (by simp) hI.wp
  · intro a w hI
    have hI : SG _ _ G a w := hI
    have e44 := hI.g 44 rfl
    have e46 := hI.g 46 rfl
    rw [if_pos (by simp [Region.wanted])]
    refine operIn_append (.tmp 44) (.tmp 46) 22 rfl 0 32 i0 (.agg #[.int .u8 0, .int .u8 0]) 2 2 under22 hi hz0 hz1 hz2 rfl (by decide) (.slice none 0 0) 0 [] (by simpa [go_sem] using e44) (World.ownsRow_nil _ _ _ _) ⟨g, off, none⟩ N cap news (by simpa [go_sem] using e46) hnl (fun j u hj => by rw [add_none]; exact hnews w hI.wp j u hj) hone (by unfold maxLen; omega) (by omega) (Nat.zero_le _) ?_
    intro V2 w1 h1 h2 h3
    obtain ⟨_, h4⟩ := h1
    rcases h4 with ⟨_, h4⟩ | ⟨g2, c2, cur, rfl, _, h5, h6, _, h7, h8⟩
    · omega
    · have hg : g2 = w.heap.size := by rcases h3 with h3 | h3 <;> simp [Value.ownBlock] at h3; exact h3
      subst hg
      have := hst w w1 c2 cur hI.wp ((Below.refl _ _).grown h2 (Nat.le_refl _) (fun k hk => by cases hk)) h5 h7 (by omega) (by simpa using h8)
      have h9 : SG _ _ _ _ _ := hI.put (d := 47) (v := .slice (some ⟨w.heap.size, 0, none⟩) N c2) (kn2 := [(1, .int .i64 p), (2, .pointer (some ⟨B, 0, none⟩)), (5, .slice (some ⟨r, 0, none⟩) N N), (47, .slice (some ⟨w.heap.size, 0, none⟩) N c2)]) (by decide) (by simp) this
      rw [show 0 + N = N from Nat.zero_add N]
      exact ⟨w.heap.size, c2, cur, h9⟩
  · rintro a w ⟨g2, c2, cur, hI⟩
    have e47 := hI.g 47 rfl
    go_simp
    exact ⟨g2, c2, cur, hI.put (d := 7) (by decide) (by simp) hI.wp⟩
  · rintro a w ⟨g2, c2, cur, hI⟩
    exact hQ g2 c2 cur a w hI
set_option maxRecDepth 100000 in
set_option maxHeartbeats 4000000 in
theorem u8 (n : Nat) {G G1 : World → Prop} (B p r N g2 c2 : Nat) (hp : p < N) (cw : ∀ w, G w → (∃ v, w.cell? ⟨g2, p * 2, none⟩ = some v) ∧ ∃ v, w.cell? ⟨g2, p * 2 + 1, none⟩ = some v) (fw : ∀ w, G w → w.frozen? ⟨g2, p * 2, none⟩ = false ∧ w.frozen? ⟨g2, p * 2 + 1, none⟩ = false) (hst : ∀ w, G w → G1 ((w.setCell ⟨g2, p * 2, none⟩ (.int .u8 11)).setCell ⟨g2, p * 2 + 1, none⟩ (.int .u8 15))) (Q : Exit → Act → World → Prop) (a : Act) (w : World) (h0 : SG [(1, .int .i64 p), (2, .pointer (some ⟨B, 0, none⟩)), (5, .slice (some ⟨r, 0, none⟩) N N), (7, .slice (some ⟨g2, 0, none⟩) N c2)] 120 G a w)
    (hQ : ∀ a w, SG [(1, .int .i64 p), (2, .pointer (some ⟨B, 0, none⟩)), (5, .slice (some ⟨r, 0, none⟩) N N), (7, .slice (some ⟨g2, 0, none⟩) N c2)] 120 G1 a w → Q .normal a w) : (regOf 8 C8).wpIn Fence.wide n Try.prog Q a w := by
  simp only [regOf, C8, Try.f8, Option.getD, Nat.reduceBEq, Bool.false_eq_true, if_true, if_false]
  refine region_sq (fun k_ a w => match k_ with | 0 => SG [(1, .int .i64 p), (2, .pointer (some ⟨B, 0, none⟩)), (5, .slice (some ⟨r, 0, none⟩) N N), (7, .slice (some ⟨g2, 0, none⟩) N c2)] 120 G a w | 1 => SG [(1, .int .i64 p), (2, .pointer (some ⟨B, 0, none⟩)), (5, .slice (some ⟨r, 0, none⟩) N N), (7, .slice (some ⟨g2, 0, none⟩) N c2), (48, .slice (some ⟨g2, 0, none⟩) N c2)] 120 G a w | 2 => SG [(1, .int .i64 p), (2, .pointer (some ⟨B, 0, none⟩)), (5, .slice (some ⟨r, 0, none⟩) N N), (7, .slice (some ⟨g2, 0, none⟩) N c2), (48, .slice (some ⟨g2, 0, none⟩) N c2), (49, .int .i64 p)] 120 G a w | 3 => SG [(1, .int .i64 p), (2, .pointer (some ⟨B, 0, none⟩)), (5, .slice (some ⟨r, 0, none⟩) N N), (7, .slice (some ⟨g2, 0, none⟩) N c2), (48, .slice (some ⟨g2, 0, none⟩) N c2), (49, .int .i64 p), (50, .agg #[.int .u8 11, .int .u8 15])] 120 G a w | 4 => SG [(1, .int .i64 p), (2, .pointer (some ⟨B, 0, none⟩)), (5, .slice (some ⟨r, 0, none⟩) N N), (7, .slice (some ⟨g2, 0, none⟩) N c2), (50, .agg #[.int .u8 11, .int .u8 15]), (51, .pointer (some ⟨g2, p * 2, none⟩))] 120 G a w | _ => SG [(1, .int .i64 p), (2, .pointer (some ⟨B, 0, none⟩)), (5, .slice (some ⟨r, 0, none⟩) N N), (7, .slice (some ⟨g2, 0, none⟩) N c2)] 120 G1 a w) (show SG _ _ G a w from h0) ⟨?_, ?_, ?_, ?_, ?_, trivial⟩ ?_
  · intro a w hI
    have hI : SG _ _ G a w := hI
    have e7 := hI.g 7 rfl
    go_simp
    exact hI.put (d := 48) (by decide) (by simp) hI.wp
  · intro a w hI
    have hI : SG _ _ G a w := hI
    have e1 := hI.g 1 rfl
    go_simp
    exact hI.put (d := 49) (by decide) (by simp) hI.wp
  · intro a w hI
    have hI : SG _ _ G a w := hI
    go_simp
    exact hI.put (d := 50) (by decide) (by simp) hI.wp
  · intro a w hI
    have hI : SG _ _ G a w := hI
    have e48 := hI.g 48 rfl
    have e49 := hI.g 49 rfl
    have q1_3 : (0 : Int) ≤ p := by omega
    have q2_3 : (p : Int) < N := by omega
    go_simp
    exact hI.put (d := 51) (by decide) (by simp) hI.wp
  · intro a w hI
    have hI : SG _ _ G a w := hI
    have e51 := hI.g 51 rfl
    have e50 := hI.g 50 rfl
    obtain ⟨⟨v0, cw0⟩, v1, cw1⟩ := cw w hI.wp
    obtain ⟨fw0, fw1⟩ := fw w hI.wp
    go_simp
    exact (hI.none (hst w hI.wp)).sub (by intro p hp; simp only [List.mem_cons, List.not_mem_nil, or_false] at hp ⊢; rcases hp with h | h | h | h <;> simp [h])
  · intro a w hI
    have hI : SG _ _ G1 a w := hI
    exact hQ a w hI
set_option maxRecDepth 100000 in
set_option maxHeartbeats 4000000 in
theorem u9 (n : Nat) {G : World → Prop} (B p r g2 c2 : Nat) (X Y Z : Int) (N : Nat) (G1 : Nat → World → Prop) (c0 : ∀ w, G w → w.cell? ⟨B, 0, none⟩ = some (.int .i64 X)) (c1 : ∀ w, G w → w.cell? ⟨B, 1, none⟩ = some (.int .i64 Y)) (c2_ : ∀ w, G w → w.cell? ⟨B, 2, none⟩ = some (.int .i64 Z)) (hc : ∀ m w, G w → CallsIn Fence.wide m Try.prog 14 #[.agg #[.int .i64 X, .int .i64 Y, .int .i64 Z, .slice (some ⟨g2, 0, none⟩) N c2]] w fun e w' => ∃ (r2 : Nat), e = .returned (.tuple #[.slice (some ⟨r2, 0, none⟩) N N, .int .i64 0]) ∧ (G1 r2) w') (Q : Exit → Act → World → Prop) (a : Act) (w : World) (h0 : SG [(1, .int .i64 p), (2, .pointer (some ⟨B, 0, none⟩)), (5, .slice (some ⟨r, 0, none⟩) N N), (7, .slice (some ⟨g2, 0, none⟩) N c2)] 120 G a w)
    (hQ : ∀ (r2 : Nat) a w, SG [(1, .int .i64 p), (2, .pointer (some ⟨B, 0, none⟩)), (5, .slice (some ⟨r, 0, none⟩) N N), (8, .slice (some ⟨r2, 0, none⟩) N N), (9, .int .i64 0)] 120 (G1 r2) a w → Q .normal a w) : (regOf 9 C8).wpIn Fence.wide n Try.prog Q a w := by
  simp only [regOf, C8, Try.f8, Option.getD, Nat.reduceBEq, Bool.false_eq_true, if_true, if_false]
  refine region_sq (fun k_ a w => match k_ with | 0 => SG [(1, .int .i64 p), (2, .pointer (some ⟨B, 0, none⟩)), (5, .slice (some ⟨r, 0, none⟩) N N), (7, .slice (some ⟨g2, 0, none⟩) N c2)] 120 G a w | 1 => SG [(1, .int .i64 p), (2, .pointer (some ⟨B, 0, none⟩)), (5, .slice (some ⟨r, 0, none⟩) N N), (7, .slice (some ⟨g2, 0, none⟩) N c2), (53, .pointer (some ⟨B, 0, none⟩))] 120 G a w | 2 => SG [(1, .int .i64 p), (2, .pointer (some ⟨B, 0, none⟩)), (5, .slice (some ⟨r, 0, none⟩) N N), (7, .slice (some ⟨g2, 0, none⟩) N c2), (54, .int .i64 X)] 120 G a w | 3 => SG [(1, .int .i64 p), (2, .pointer (some ⟨B, 0, none⟩)), (5, .slice (some ⟨r, 0, none⟩) N N), (7, .slice (some ⟨g2, 0, none⟩) N c2), (54, .int .i64 X), (55, .pointer (some ⟨B, 1, none⟩))] 120 G a w | 4 => SG [(1, .int .i64 p), (2, .pointer (some ⟨B, 0, none⟩)), (5, .slice (some ⟨r, 0, none⟩) N N), (7, .slice (some ⟨g2, 0, none⟩) N c2), (54, .int .i64 X), (56, .int .i64 Y)] 120 G a w | 5 => SG [(1, .int .i64 p), (2, .pointer (some ⟨B, 0, none⟩)), (5, .slice (some ⟨r, 0, none⟩) N N), (7, .slice (some ⟨g2, 0, none⟩) N c2), (54, .int .i64 X), (56, .int .i64 Y), (57, .pointer (some ⟨B, 2, none⟩))] 120 G a w | 6 => SG [(1, .int .i64 p), (2, .pointer (some ⟨B, 0, none⟩)), (5, .slice (some ⟨r, 0, none⟩) N N), (7, .slice (some ⟨g2, 0, none⟩) N c2), (54, .int .i64 X), (56, .int .i64 Y), (58, .int .i64 Z)] 120 G a w | 7 => SG [(1, .int .i64 p), (2, .pointer (some ⟨B, 0, none⟩)), (5, .slice (some ⟨r, 0, none⟩) N N), (54, .int .i64 X), (56, .int .i64 Y), (58, .int .i64 Z), (59, .slice (some ⟨g2, 0, none⟩) N c2)] 120 G a w | 8 => SG [(1, .int .i64 p), (2, .pointer (some ⟨B, 0, none⟩)), (5, .slice (some ⟨r, 0, none⟩) N N), (60, .agg #[.int .i64 X, .int .i64 Y, .int .i64 Z, .slice (some ⟨g2, 0, none⟩) N c2])] 120 G a w | 9 => ∃ (r2 : Nat), SG [(1, .int .i64 p), (2, .pointer (some ⟨B, 0, none⟩)), (5, .slice (some ⟨r, 0, none⟩) N N), (61, .tuple #[.slice (some ⟨r2, 0, none⟩) N N, .int .i64 0])] 120 (G1 r2) a w | 10 => ∃ (r2 : Nat), SG [(1, .int .i64 p), (2, .pointer (some ⟨B, 0, none⟩)), (5, .slice (some ⟨r, 0, none⟩) N N), (52, .tuple #[.slice (some ⟨r2, 0, none⟩) N N, .int .i64 0])] 120 (G1 r2) a w | 11 => ∃ (r2 : Nat), SG [(1, .int .i64 p), (2, .pointer (some ⟨B, 0, none⟩)), (5, .slice (some ⟨r, 0, none⟩) N N), (52, .tuple #[.slice (some ⟨r2, 0, none⟩) N N, .int .i64 0]), (62, .slice (some ⟨r2, 0, none⟩) N N)] 120 (G1 r2) a w | 12 => ∃ (r2 : Nat), SG [(1, .int .i64 p), (2, .pointer (some ⟨B, 0, none⟩)), (5, .slice (some ⟨r, 0, none⟩) N N), (62, .slice (some ⟨r2, 0, none⟩) N N), (63, .int .i64 0)] 120 (G1 r2) a w | 13 => ∃ (r2 : Nat), SG [(1, .int .i64 p), (2, .pointer (some ⟨B, 0, none⟩)), (5, .slice (some ⟨r, 0, none⟩) N N), (63, .int .i64 0), (8, .slice (some ⟨r2, 0, none⟩) N N)] 120 (G1 r2) a w | _ => ∃ (r2 : Nat), SG [(1, .int .i64 p), (2, .pointer (some ⟨B, 0, none⟩)), (5, .slice (some ⟨r, 0, none⟩) N N), (8, .slice (some ⟨r2, 0, none⟩) N N), (9, .int .i64 0)] 120 (G1 r2) a w) (show SG _ _ G a w from h0) ⟨?_, ?_, ?_, ?_, ?_, ?_, ?_, ?_, ?_, ?_, ?_, ?_, ?_, ?_, trivial⟩ ?_
  · intro a w hI
    have hI : SG _ _ G a w := hI
    have e2 := hI.g 2 rfl
    go_simp
    exact hI.put (d := 53) (by decide) (by simp) hI.wp
  · intro a w hI
    have hI : SG _ _ G a w := hI
    have e53 := hI.g 53 rfl
    have cc0 := c0 w hI.wp
    go_simp
    exact hI.put (d := 54) (by decide) (by simp) hI.wp
  · intro a w hI
    have hI : SG _ _ G a w := hI
    have e2 := hI.g 2 rfl
    go_simp
    exact hI.put (d := 55) (by decide) (by simp) hI.wp
  · intro a w hI
    have hI : SG _ _ G a w := hI
    have e55 := hI.g 55 rfl
    have cc0 := c1 w hI.wp
    go_simp
    exact hI.put (d := 56) (by decide) (by simp) hI.wp
  · intro a w hI
    have hI : SG _ _ G a w := hI
    have e2 := hI.g 2 rfl
    go_simp
    exact hI.put (d := 57) (by decide) (by simp) hI.wp
  · intro a w hI
    have hI : SG _ _ G a w := hI
    have e57 := hI.g 57 rfl
    have cc0 := c2_ w hI.wp
    go_simp
    exact hI.put (d := 58) (by decide) (by simp) hI.wp
  · intro a w hI
    have hI : SG _ _ G a w := hI
    have e7 := hI.g 7 rfl
    go_simp
    exact hI.put (d := 59) (by decide) (by simp) hI.wp
  · intro a w hI
    have hI : SG _ _ G a w := hI
    have e54 := hI.g 54 rfl
    have e56 := hI.g 56 rfl
    have e58 := hI.g 58 rfl
    have e59 := hI.g 59 rfl
    go_simp
    exact hI.put (d := 60) (by decide) (by simp) hI.wp
  · intro a w hI
    have hI : SG _ _ G a w := hI
    have e60 := hI.g 60 rfl
    go_simp
    refine ⟨trivial, fun h => (by cases h), (hc (n - 1) w hI.wp).mono ?_⟩
    rintro e w' ⟨r2, rfl, hg2⟩
    exact ⟨r2, hI.put (d := 61) (by decide) (by simp) hg2⟩
  · rintro a w ⟨r2, hI⟩
    have e61 := hI.g 61 rfl
    go_simp
    exact ⟨r2, hI.put (d := 52) (by decide) (by simp) hI.wp⟩
  · rintro a w ⟨r2, hI⟩
    have e52 := hI.g 52 rfl
    go_simp
    exact ⟨r2, hI.put (d := 62) (by decide) (by simp) hI.wp⟩
  · rintro a w ⟨r2, hI⟩
    have e52 := hI.g 52 rfl
    go_simp
    exact ⟨r2, hI.put (d := 63) (by decide) (by simp) hI.wp⟩
  · rintro a w ⟨r2, hI⟩
    have e62 := hI.g 62 rfl
    go_simp
    exact ⟨r2, hI.put (d := 8) (by decide) (by simp) hI.wp⟩
  · rintro a w ⟨r2, hI⟩
    have e63 := hI.g 63 rfl
    go_simp
    exact ⟨r2, hI.put (d := 9) (by decide) (by simp) hI.wp⟩
  · rintro a w ⟨r2, hI⟩
    exact hQ r2 a w hI
set_option maxRecDepth 100000 in
set_option maxHeartbeats 4000000 in
theorem u10 (n : Nat) (W : World) (B p r r2 N : Nat) (sp : Option Addr) (cap : Nat) (c3 : W.cell? ⟨B, 3, none⟩ = some (.slice sp N cap)) (Q : Exit → Act → World → Prop) (a : Act) (h0 : SR [(1, .int .i64 p), (2, .pointer (some ⟨B, 0, none⟩)), (5, .slice (some ⟨r, 0, none⟩) N N), (8, .slice (some ⟨r2, 0, none⟩) N N), (9, .int .i64 0)] 120 [] W a W)
    (hQ : ∀ a, SR [(1, .int .i64 p), (5, .slice (some ⟨r, 0, none⟩) N N), (8, .slice (some ⟨r2, 0, none⟩) N N), (80, .bool false)] 120 [] (W) a (W) → Q .normal a (W)) : (regOf 10 C8).wpIn Fence.wide n Try.prog Q a W := by
  simp only [regOf, C8, Try.f8, Option.getD, Nat.reduceBEq, Bool.false_eq_true, if_true, if_false]
  refine region_sq (fun k_ a w => match k_ with | 0 => SR [(1, .int .i64 p), (2, .pointer (some ⟨B, 0, none⟩)), (5, .slice (some ⟨r, 0, none⟩) N N), (8, .slice (some ⟨r2, 0, none⟩) N N), (9, .int .i64 0)] 120 [] (W) a w | 1 => SR [(1, .int .i64 p), (2, .pointer (some ⟨B, 0, none⟩)), (5, .slice (some ⟨r, 0, none⟩) N N), (8, .slice (some ⟨r2, 0, none⟩) N N), (64, .int .i64 0)] 120 [] (W) a w | 2 => SR [(1, .int .i64 p), (2, .pointer (some ⟨B, 0, none⟩)), (5, .slice (some ⟨r, 0, none⟩) N N), (8, .slice (some ⟨r2, 0, none⟩) N N), (65, .bool false)] 120 [] (W) a w | 3 => SR [(1, .int .i64 p), (2, .pointer (some ⟨B, 0, none⟩)), (5, .slice (some ⟨r, 0, none⟩) N N), (8, .slice (some ⟨r2, 0, none⟩) N N), (66, .bool false)] 120 [] (W) a w | 4 => SR [(1, .int .i64 p), (2, .pointer (some ⟨B, 0, none⟩)), (5, .slice (some ⟨r, 0, none⟩) N N), (8, .slice (some ⟨r2, 0, none⟩) N N), (66, .bool false), (67, .slice (some ⟨r2, 0, none⟩) N N)] 120 [] (W) a w | 5 => SR [(1, .int .i64 p), (2, .pointer (some ⟨B, 0, none⟩)), (5, .slice (some ⟨r, 0, none⟩) N N), (8, .slice (some ⟨r2, 0, none⟩) N N), (66, .bool false), (68, .int .i64 N)] 120 [] (W) a w | 6 => SR [(1, .int .i64 p), (2, .pointer (some ⟨B, 0, none⟩)), (5, .slice (some ⟨r, 0, none⟩) N N), (8, .slice (some ⟨r2, 0, none⟩) N N), (66, .bool false), (68, .int .i64 N), (69, .slice (some ⟨r, 0, none⟩) N N)] 120 [] (W) a w | 7 => SR [(1, .int .i64 p), (2, .pointer (some ⟨B, 0, none⟩)), (5, .slice (some ⟨r, 0, none⟩) N N), (8, .slice (some ⟨r2, 0, none⟩) N N), (66, .bool false), (68, .int .i64 N), (70, .int .i64 N)] 120 [] (W) a w | 8 => SR [(1, .int .i64 p), (2, .pointer (some ⟨B, 0, none⟩)), (5, .slice (some ⟨r, 0, none⟩) N N), (8, .slice (some ⟨r2, 0, none⟩) N N), (66, .bool false), (71, .bool false)] 120 [] (W) a w | 9 => SR [(1, .int .i64 p), (2, .pointer (some ⟨B, 0, none⟩)), (5, .slice (some ⟨r, 0, none⟩) N N), (8, .slice (some ⟨r2, 0, none⟩) N N), (72, .bool false)] 120 [] (W) a w | 10 => SR [(1, .int .i64 p), (2, .pointer (some ⟨B, 0, none⟩)), (5, .slice (some ⟨r, 0, none⟩) N N), (8, .slice (some ⟨r2, 0, none⟩) N N), (73, .bool false)] 120 [] (W) a w | 11 => SR [(1, .int .i64 p), (2, .pointer (some ⟨B, 0, none⟩)), (5, .slice (some ⟨r, 0, none⟩) N N), (8, .slice (some ⟨r2, 0, none⟩) N N), (73, .bool false), (74, .slice (some ⟨r, 0, none⟩) N N)] 120 [] (W) a w | 12 => SR [(1, .int .i64 p), (2, .pointer (some ⟨B, 0, none⟩)), (5, .slice (some ⟨r, 0, none⟩) N N), (8, .slice (some ⟨r2, 0, none⟩) N N), (73, .bool false), (75, .int .i64 N)] 120 [] (W) a w | 13 => SR [(1, .int .i64 p), (5, .slice (some ⟨r, 0, none⟩) N N), (8, .slice (some ⟨r2, 0, none⟩) N N), (73, .bool false), (75, .int .i64 N), (76, .pointer (some ⟨B, 3, none⟩))] 120 [] (W) a w | 14 => SR [(1, .int .i64 p), (5, .slice (some ⟨r, 0, none⟩) N N), (8, .slice (some ⟨r2, 0, none⟩) N N), (73, .bool false), (75, .int .i64 N), (77, .slice sp N cap)] 120 [] (W) a w | 15 => SR [(1, .int .i64 p), (5, .slice (some ⟨r, 0, none⟩) N N), (8, .slice (some ⟨r2, 0, none⟩) N N), (73, .bool false), (75, .int .i64 N), (78, .int .i64 N)] 120 [] (W) a w | 16 => SR [(1, .int .i64 p), (5, .slice (some ⟨r, 0, none⟩) N N), (8, .slice (some ⟨r2, 0, none⟩) N N), (73, .bool false), (79, .bool false)] 120 [] (W) a w | _ => SR [(1, .int .i64 p), (5, .slice (some ⟨r, 0, none⟩) N N), (8, .slice (some ⟨r2, 0, none⟩) N N), (80, .bool false)] 120 [] (W) a w) (show SR _ _ _ _ a W from h0) ⟨?_, ?_, ?_, ?_, ?_, ?_, ?_, ?_, ?_, ?_, ?_, ?_, ?_, ?_, ?_, ?_, ?_, trivial⟩ ?_
  · intro a w hI
    have hI : SR _ _ _ _ a w := hI
    have e9 := hI.g 9 rfl
    have hw : w = W := hI.wp
    subst hw
    go_simp
    exact hI.put (d := 64) (by decide) (by simp)
  · intro a w hI
    have hI : SR _ _ _ _ a w := hI
    have e64 := hI.g 64 rfl
    have hw : w = W := hI.wp
    subst hw
    go_simp
    exact hI.put (d := 65) (by decide) (by simp)
  · intro a w hI
    have hI : SR _ _ _ _ a w := hI
    have e65 := hI.g 65 rfl
    have hw : w = W := hI.wp
    subst hw
    go_simp
    exact hI.put (d := 66) (by decide) (by simp)
  · intro a w hI
    have hI : SR _ _ _ _ a w := hI
    have e8 := hI.g 8 rfl
    have e66 := hI.g 66 rfl
    have f66 := slot_bool e66
    have hw : w = W := hI.wp
    subst hw
    go_simp
    exact hI.put (d := 67) (by decide) (by simp)
  · intro a w hI
    have hI : SR _ _ _ _ a w := hI
    have e67 := hI.g 67 rfl
    have e66 := hI.g 66 rfl
    have f66 := slot_bool e66
    have hw : w = W := hI.wp
    subst hw
    go_simp
    exact hI.put (d := 68) (by decide) (by simp)
  · intro a w hI
    have hI : SR _ _ _ _ a w := hI
    have e5 := hI.g 5 rfl
    have e66 := hI.g 66 rfl
    have f66 := slot_bool e66
    have hw : w = W := hI.wp
    subst hw
    go_simp
    exact hI.put (d := 69) (by decide) (by simp)
  · intro a w hI
    have hI : SR _ _ _ _ a w := hI
    have e69 := hI.g 69 rfl
    have e66 := hI.g 66 rfl
    have f66 := slot_bool e66
    have hw : w = W := hI.wp
    subst hw
    go_simp
    exact hI.put (d := 70) (by decide) (by simp)
  · intro a w hI
    have hI : SR _ _ _ _ a w := hI
    have e68 := hI.g 68 rfl
    have e70 := hI.g 70 rfl
    have e66 := hI.g 66 rfl
    have f66 := slot_bool e66
    have hw : w = W := hI.wp
    subst hw
    go_simp
    exact hI.put (d := 71) (by decide) (by simp)
  · intro a w hI
    have hI : SR _ _ _ _ a w := hI
    have e66 := hI.g 66 rfl
    have e71 := hI.g 71 rfl
    have hw : w = W := hI.wp
    subst hw
    go_simp
    exact hI.put (d := 72) (by decide) (by simp)
  · intro a w hI
    have hI : SR _ _ _ _ a w := hI
    have e72 := hI.g 72 rfl
    have hw : w = W := hI.wp
    subst hw
    go_simp
    exact hI.put (d := 73) (by decide) (by simp)
  · intro a w hI
    have hI : SR _ _ _ _ a w := hI
    have e5 := hI.g 5 rfl
    have e73 := hI.g 73 rfl
    have f73 := slot_bool e73
    have hw : w = W := hI.wp
    subst hw
    go_simp
    exact hI.put (d := 74) (by decide) (by simp)
  · intro a w hI
    have hI : SR _ _ _ _ a w := hI
    have e74 := hI.g 74 rfl
    have e73 := hI.g 73 rfl
    have f73 := slot_bool e73
    have hw : w = W := hI.wp
    subst hw
    go_simp
    exact hI.put (d := 75) (by decide) (by simp)
  · intro a w hI
    have hI : SR _ _ _ _ a w := hI
    have e2 := hI.g 2 rfl
    have e73 := hI.g 73 rfl
    have f73 := slot_bool e73
    have hw : w = W := hI.wp
    subst hw
    go_simp
    exact hI.put (d := 76) (by decide) (by simp)
  · intro a w hI
    have hI : SR _ _ _ _ a w := hI
    have e76 := hI.g 76 rfl
    have e73 := hI.g 73 rfl
    have f73 := slot_bool e73
    have hw : w = W := hI.wp
    subst hw
    go_simp
    exact hI.put (d := 77) (by decide) (by simp)
  · intro a w hI
    have hI : SR _ _ _ _ a w := hI
    have e77 := hI.g 77 rfl
    have e73 := hI.g 73 rfl
    have f73 := slot_bool e73
    have hw : w = W := hI.wp
    subst hw
    go_simp
    exact hI.put (d := 78) (by decide) (by simp)
  · intro a w hI
    have hI : SR _ _ _ _ a w := hI
    have e75 := hI.g 75 rfl
    have e78 := hI.g 78 rfl
    have e73 := hI.g 73 rfl
    have f73 := slot_bool e73
    have hw : w = W := hI.wp
    subst hw
    go_simp
    exact hI.put (d := 79) (by decide) (by simp)
  · intro a w hI
    have hI : SR _ _ _ _ a w := hI
    have e73 := hI.g 73 rfl
    have e79 := hI.g 79 rfl
    have hw : w = W := hI.wp
    subst hw
    go_simp
    exact hI.put (d := 80) (by decide) (by simp)
  · intro a w hI
    have hI : SR _ _ _ _ a w := hI
    have hw : w = W := hI.wp
    subst hw
    exact hQ a hI
set_option maxRecDepth 100000 in
set_option maxHeartbeats 4000000 in
theorem u12 (n : Nat) (W : World) (p r r2 N : Nat) (Q : Exit → Act → World → Prop) (a : Act) (h0 : SR [(1, .int .i64 p), (5, .slice (some ⟨r, 0, none⟩) N N), (8, .slice (some ⟨r2, 0, none⟩) N N)] 120 [] W a W)
    (hQ : ∀ a, SR [(1, .int .i64 p), (5, .slice (some ⟨r, 0, none⟩) N N), (8, .slice (some ⟨r2, 0, none⟩) N N), (10, .int .i64 0)] 120 [] (W) a (W) → Q .normal a (W)) : (regOf 12 C8).wpIn Fence.wide n Try.prog Q a W := by
  simp only [regOf, C8, Try.f8, Option.getD, Nat.reduceBEq, Bool.false_eq_true, if_true, if_false]
  refine region_sq (fun k_ a w => match k_ with | 0 => SR [(1, .int .i64 p), (5, .slice (some ⟨r, 0, none⟩) N N), (8, .slice (some ⟨r2, 0, none⟩) N N)] 120 [] (W) a w | _ => SR [(1, .int .i64 p), (5, .slice (some ⟨r, 0, none⟩) N N), (8, .slice (some ⟨r2, 0, none⟩) N N), (10, .int .i64 0)] 120 [] (W) a w) (show SR _ _ _ _ a W from h0) ⟨?_, trivial⟩ ?_
  · intro a w hI
    have hI : SR _ _ _ _ a w := hI
    have hw : w = W := hI.wp
    subst hw
    go_simp
    exact hI.put (d := 10) (by decide) (by simp)
  · intro a w hI
    have hI : SR _ _ _ _ a w := hI
    have hw : w = W := hI.wp
    subst hw
    exact hQ a hI
set_option maxRecDepth 100000 in
set_option maxHeartbeats 4000000 in
theorem u13 (n : Nat) (W : World) (p r r2 N i : Nat) (Q : Exit → Act → World → Prop) (a : Act) (h0 : SR [(1, .int .i64 p), (5, .slice (some ⟨r, 0, none⟩) N N), (8, .slice (some ⟨r2, 0, none⟩) N N), (10, .int .i64 i)] 120 [] W a W)
    (hQ : ∀ a, SR [(1, .int .i64 p), (5, .slice (some ⟨r, 0, none⟩) N N), (8, .slice (some ⟨r2, 0, none⟩) N N), (10, .int .i64 i), (84, .bool (decide (i < N)))] 120 [] (W) a (W) → Q .normal a (W)) : (regOf 13 C8).wpIn Fence.wide n Try.prog Q a W := by
  simp only [regOf, C8, Try.f8, Option.getD, Nat.reduceBEq, Bool.false_eq_true, if_true, if_false]
  refine region_sq (fun k_ a w => match k_ with | 0 => SR [(1, .int .i64 p), (5, .slice (some ⟨r, 0, none⟩) N N), (8, .slice (some ⟨r2, 0, none⟩) N N), (10, .int .i64 i)] 120 [] (W) a w | 1 => SR [(1, .int .i64 p), (5, .slice (some ⟨r, 0, none⟩) N N), (8, .slice (some ⟨r2, 0, none⟩) N N), (10, .int .i64 i), (81, .int .i64 i)] 120 [] (W) a w | 2 => SR [(1, .int .i64 p), (5, .slice (some ⟨r, 0, none⟩) N N), (8, .slice (some ⟨r2, 0, none⟩) N N), (10, .int .i64 i), (81, .int .i64 i), (82, .slice (some ⟨r, 0, none⟩) N N)] 120 [] (W) a w | 3 => SR [(1, .int .i64 p), (5, .slice (some ⟨r, 0, none⟩) N N), (8, .slice (some ⟨r2, 0, none⟩) N N), (10, .int .i64 i), (81, .int .i64 i), (83, .int .i64 N)] 120 [] (W) a w | _ => SR [(1, .int .i64 p), (5, .slice (some ⟨r, 0, none⟩) N N), (8, .slice (some ⟨r2, 0, none⟩) N N), (10, .int .i64 i), (84, .bool (decide (i < N)))] 120 [] (W) a w) (show SR _ _ _ _ a W from h0) ⟨?_, ?_, ?_, ?_, trivial⟩ ?_
  · intro a w hI
    have hI : SR _ _ _ _ a w := hI
    have e10 := hI.g 10 rfl
    have hw : w = W := hI.wp
    subst hw
    go_simp
    exact hI.put (d := 81) (by decide) (by simp)
  · intro a w hI
    have hI : SR _ _ _ _ a w := hI
    have e5 := hI.g 5 rfl
    have hw : w = W := hI.wp
    subst hw
    go_simp
    exact hI.put (d := 82) (by decide) (by simp)
  · intro a w hI
    have hI : SR _ _ _ _ a w := hI
    have e82 := hI.g 82 rfl
    have hw : w = W := hI.wp
    subst hw
    go_simp
    exact hI.put (d := 83) (by decide) (by simp)
  · intro a w hI
    have hI : SR _ _ _ _ a w := hI
    have e81 := hI.g 81 rfl
    have e83 := hI.g 83 rfl
    have hw : w = W := hI.wp
    subst hw
    go_simp
    exact hI.put (d := 84) (by decide) (by simp)
  · intro a w hI
    have hI : SR _ _ _ _ a w := hI
    have hw : w = W := hI.wp
    subst hw
    exact hQ a hI
set_option maxRecDepth 100000 in
set_option maxHeartbeats 4000000 in
theorem u14 (n : Nat) (W : World) (p r r2 N i : Nat) (hi : i < 9000000000) (Q : Exit → Act → World → Prop) (a : Act) (h0 : SR [(1, .int .i64 p), (5, .slice (some ⟨r, 0, none⟩) N N), (8, .slice (some ⟨r2, 0, none⟩) N N), (10, .int .i64 i)] 120 [] W a W)
    (hQ : ∀ a, SR [(1, .int .i64 p), (5, .slice (some ⟨r, 0, none⟩) N N), (8, .slice (some ⟨r2, 0, none⟩) N N), (10, .int .i64 ((i : Int) + 1))] 120 [] (W) a (W) → Q .normal a (W)) : (regOf 14 C8).wpIn Fence.wide n Try.prog Q a W := by
  simp only [regOf, C8, Try.f8, Option.getD, Nat.reduceBEq, Bool.false_eq_true, if_true, if_false]
  refine region_sq (fun k_ a w => match k_ with | 0 => SR [(1, .int .i64 p), (5, .slice (some ⟨r, 0, none⟩) N N), (8, .slice (some ⟨r2, 0, none⟩) N N), (10, .int .i64 i)] 120 [] (W) a w | 1 => SR [(1, .int .i64 p), (5, .slice (some ⟨r, 0, none⟩) N N), (8, .slice (some ⟨r2, 0, none⟩) N N), (85, .int .i64 i)] 120 [] (W) a w | 2 => SR [(1, .int .i64 p), (5, .slice (some ⟨r, 0, none⟩) N N), (8, .slice (some ⟨r2, 0, none⟩) N N), (86, .int .i64 ((i : Int) + 1))] 120 [] (W) a w | _ => SR [(1, .int .i64 p), (5, .slice (some ⟨r, 0, none⟩) N N), (8, .slice (some ⟨r2, 0, none⟩) N N), (10, .int .i64 ((i : Int) + 1))] 120 [] (W) a w) (show SR _ _ _ _ a W from h0) ⟨?_, ?_, ?_, trivial⟩ ?_
  · intro a w hI
    have hI : SR _ _ _ _ a w := hI
    have e10 := hI.g 10 rfl
    have hw : w = W := hI.wp
    subst hw
    go_simp
    exact hI.put (d := 85) (by decide) (by simp)
  · intro a w hI
    have hI : SR _ _ _ _ a w := hI
    have e85 := hI.g 85 rfl
    have hw : w = W := hI.wp
    subst hw
    have hw1 : IntKind.i64.wrap ((i : Int) + 1) = (i : Int) + 1 := IntWalk.i64_in _ (by omega)
    go_simp
    exact hI.put (d := 86) (by decide) (by simp)
  · intro a w hI
    have hI : SR _ _ _ _ a w := hI
    have e86 := hI.g 86 rfl
    have hw : w = W := hI.wp
    subst hw
    go_simp
    exact hI.put (d := 10) (by decide) (by simp)
  · intro a w hI
    have hI : SR _ _ _ _ a w := hI
    have hw : w = W := hI.wp
    subst hw
    exact hQ a hI
set_option maxRecDepth 100000 in
set_option maxHeartbeats 4000000 in
theorem u15 (n : Nat) {G : World → Prop} (hS : Stable G) (p r r2 N i s l l2 : Nat) (hi : i < N) (hl : l ≤ l2) (lb0 : ∀ w, G w → w.cell? ⟨r2, i * 2, none⟩ = some (.int .u8 s)) (la0 : ∀ w, G w → w.cell? ⟨r, i * 2, none⟩ = some (.int .u8 s)) (lb1 : ∀ w, G w → w.cell? ⟨r2, i * 2 + 1, none⟩ = some (.int .u8 l2)) (la1 : ∀ w, G w → w.cell? ⟨r, i * 2 + 1, none⟩ = some (.int .u8 l)) (Q : Exit → Act → World → Prop) (a : Act) (w : World) (h0 : SG [(1, .int .i64 p), (5, .slice (some ⟨r, 0, none⟩) N N), (8, .slice (some ⟨r2, 0, none⟩) N N), (10, .int .i64 i)] 120 G a w)
    (hQ : ∀ a w, SG [(1, .int .i64 p), (5, .slice (some ⟨r, 0, none⟩) N N), (8, .slice (some ⟨r2, 0, none⟩) N N), (10, .int .i64 i), (110, .bool false)] 120 G a w → Q .normal a w) : (regOf 15 C8).wpIn Fence.wide n Try.prog Q a w := by
  have hmix : Try.prog.follows .mixedOrders = true := by kernel_rfl
  simp only [regOf, C8, Try.f8, Option.getD, Nat.reduceBEq, Bool.false_eq_true, if_true, if_false]
  refine region_inv (RI [(1, .int .i64 p), (5, .slice (some ⟨r, 0, none⟩) N N), (8, .slice (some ⟨r2, 0, none⟩) N N), (10, .int .i64 i)]
    [(0, 87, .slice (some ⟨r2, 0, none⟩) N N), (1, 88, .int .i64 i), (2, 89, .pointer (some ⟨r2, i * 2, none⟩)), (3, 90, .pointer (some ⟨r2, i * 2, none⟩)), (4, 91, .int .u8 s), (5, 92, .slice (some ⟨r, 0, none⟩) N N), (6, 93, .int .i64 i), (7, 94, .pointer (some ⟨r, i * 2, none⟩)), (8, 95, .pointer (some ⟨r, i * 2, none⟩)), (9, 96, .int .u8 s), (10, 97, .bool false), (11, 98, .bool false), (12, 99, .slice (some ⟨r2, 0, none⟩) N N), (13, 100, .int .i64 i), (14, 101, .pointer (some ⟨r2, i * 2, none⟩)), (15, 102, .pointer (some ⟨r2, i * 2 + 1, none⟩)), (16, 103, .int .u8 l2), (17, 104, .slice (some ⟨r, 0, none⟩) N N), (18, 105, .int .i64 i), (19, 106, .pointer (some ⟨r, i * 2, none⟩)), (20, 107, .pointer (some ⟨r, i * 2 + 1, none⟩)), (21, 108, .int .u8 l), (22, 109, .bool false), (23, 110, .bool false)] 120 [] (fun _ w => G w)) hmix (by kernel_rfl) ⟨h0.size, h0.defers, h0.kn, by simp, hS _ _ h0.wp (Below.refl _ _).drew⟩ ⟨?_, ?_, ?_, ?_, ?_, ?_, ?_, ?_, ?_, ?_, ?_, ?_, ?_, ?_, ?_, ?_, ?_, ?_, ?_, ?_, ?_, ?_, ?_, ?_, trivial⟩ ?_
  · intro Xs a w hX hdep hC hI
    have e8 := hI.gi 8 rfl
    go_simp
    exact hI.put' (k := 0) (d := 87) (by decide) (by simp) (by simp) (by simp) hI.wp
  · intro Xs a w hX hdep hC hI
    have e10 := hI.gi 10 rfl
    go_simp
    exact hI.put' (k := 1) (d := 88) (by decide) (by simp) (by simp) (by simp) hI.wp
  · intro Xs a w hX hdep hC hI
    have x0 : Xs 0 = true := hdep ⟨0, .data⟩ (by simp) rfl
    have e87 := hI.gk 0 rfl x0
    have x1 : Xs 1 = true := hdep ⟨1, .data⟩ (by simp) rfl
    have e88 := hI.gk 1 rfl x1
    have q1_2 : (0 : Int) ≤ i := by omega
    have q2_2 : (i : Int) < N := by omega
    go_simp
    exact hI.put' (k := 2) (d := 89) (by decide) (by simp) (by simp) (by simp) hI.wp
  · intro Xs a w hX hdep hC hI
    have x2 : Xs 2 = true := hdep ⟨2, .data⟩ (by simp) rfl
    have e89 := hI.gk 2 rfl x2
    go_simp
    exact hI.put' (k := 3) (d := 90) (by decide) (by simp) (by simp) (by simp) hI.wp
  · intro Xs a w hX hdep hC hI
    have x3 : Xs 3 = true := hdep ⟨3, .data⟩ (by simp) rfl
    have e90 := hI.gk 3 rfl x3
    have cc0 := lb0 w hI.wp
    go_simp
    exact hI.put' (k := 4) (d := 91) (by decide) (by simp) (by simp) (by simp) hI.wp
  · intro Xs a w hX hdep hC hI
    have e5 := hI.gi 5 rfl
    go_simp
    exact hI.put' (k := 5) (d := 92) (by decide) (by simp) (by simp) (by simp) hI.wp
  · intro Xs a w hX hdep hC hI
    have e10 := hI.gi 10 rfl
    go_simp
    exact hI.put' (k := 6) (d := 93) (by decide) (by simp) (by simp) (by simp) hI.wp
  · intro Xs a w hX hdep hC hI
    have x5 : Xs 5 = true := hdep ⟨5, .data⟩ (by simp) rfl
    have e92 := hI.gk 5 rfl x5
    have x6 : Xs 6 = true := hdep ⟨6, .data⟩ (by simp) rfl
    have e93 := hI.gk 6 rfl x6
    have q1_7 : (0 : Int) ≤ i := by omega
    have q2_7 : (i : Int) < N := by omega
    go_simp
    exact hI.put' (k := 7) (d := 94) (by decide) (by simp) (by simp) (by simp) hI.wp
  · intro Xs a w hX hdep hC hI
    have x7 : Xs 7 = true := hdep ⟨7, .data⟩ (by simp) rfl
    have e94 := hI.gk 7 rfl x7
    go_simp
    exact hI.put' (k := 8) (d := 95) (by decide) (by simp) (by simp) (by simp) hI.wp
  · intro Xs a w hX hdep hC hI
    have x8 : Xs 8 = true := hdep ⟨8, .data⟩ (by simp) rfl
    have e95 := hI.gk 8 rfl x8
    have cc0 := la0 w hI.wp
    go_simp
    exact hI.put' (k := 9) (d := 96) (by decide) (by simp) (by simp) (by simp) hI.wp
  · intro Xs a w hX hdep hC hI
    have x4 : Xs 4 = true := hdep ⟨4, .data⟩ (by simp) rfl
    have e91 := hI.gk 4 rfl x4
    have x9 : Xs 9 = true := hdep ⟨9, .data⟩ (by simp) rfl
    have e96 := hI.gk 9 rfl x9
    go_simp
    exact hI.put' (k := 10) (d := 97) (by decide) (by simp) (by simp) (by simp) hI.wp
  · intro Xs a w hX hdep hC hI
    have x10 : Xs 10 = true := hdep ⟨10, .data⟩ (by simp) rfl
    have e97 := hI.gk 10 rfl x10
    go_simp
    exact hI.put' (k := 11) (d := 98) (by decide) (by simp) (by simp) (by simp) hI.wp
  · intro Xs a w hX hdep hC hI
    have e8 := hI.gi 8 rfl
    have x11 : Xs 11 = true := hdep ⟨11, .guard⟩ (by simp) rfl
    have e98 := hI.gk 11 rfl x11
    have f98 := slot_bool e98
    go_simp
    exact hI.put' (k := 12) (d := 99) (by decide) (by simp) (by simp) (by simp) hI.wp
  · intro Xs a w hX hdep hC hI
    have e10 := hI.gi 10 rfl
    have x11 : Xs 11 = true := hdep ⟨11, .guard⟩ (by simp) rfl
    have e98 := hI.gk 11 rfl x11
    have f98 := slot_bool e98
    go_simp
    exact hI.put' (k := 13) (d := 100) (by decide) (by simp) (by simp) (by simp) hI.wp
  · intro Xs a w hX hdep hC hI
    have x12 : Xs 12 = true := hdep ⟨12, .data⟩ (by simp) rfl
    have e99 := hI.gk 12 rfl x12
    have x13 : Xs 13 = true := hdep ⟨13, .data⟩ (by simp) rfl
    have e100 := hI.gk 13 rfl x13
    have x11 : Xs 11 = true := hdep ⟨11, .guard⟩ (by simp) rfl
    have e98 := hI.gk 11 rfl x11
    have f98 := slot_bool e98
    have q1_14 : (0 : Int) ≤ i := by omega
    have q2_14 : (i : Int) < N := by omega
    go_simp
    exact hI.put' (k := 14) (d := 101) (by decide) (by simp) (by simp) (by simp) hI.wp
  · intro Xs a w hX hdep hC hI
    have x14 : Xs 14 = true := hdep ⟨14, .data⟩ (by simp) rfl
    have e101 := hI.gk 14 rfl x14
    have x11 : Xs 11 = true := hdep ⟨11, .guard⟩ (by simp) rfl
    have e98 := hI.gk 11 rfl x11
    have f98 := slot_bool e98
    go_simp
    exact hI.put' (k := 15) (d := 102) (by decide) (by simp) (by simp) (by simp) hI.wp
  · intro Xs a w hX hdep hC hI
    have x15 : Xs 15 = true := hdep ⟨15, .data⟩ (by simp) rfl
    have e102 := hI.gk 15 rfl x15
    have x11 : Xs 11 = true := hdep ⟨11, .guard⟩ (by simp) rfl
    have e98 := hI.gk 11 rfl x11
    have f98 := slot_bool e98
    have cc0 := lb1 w hI.wp
    go_simp
    exact hI.put' (k := 16) (d := 103) (by decide) (by simp) (by simp) (by simp) hI.wp
  · intro Xs a w hX hdep hC hI
    have e5 := hI.gi 5 rfl
    have x11 : Xs 11 = true := hdep ⟨11, .guard⟩ (by simp) rfl
    have e98 := hI.gk 11 rfl x11
    have f98 := slot_bool e98
    go_simp
    exact hI.put' (k := 17) (d := 104) (by decide) (by simp) (by simp) (by simp) hI.wp
  · intro Xs a w hX hdep hC hI
    have e10 := hI.gi 10 rfl
    have x11 : Xs 11 = true := hdep ⟨11, .guard⟩ (by simp) rfl
    have e98 := hI.gk 11 rfl x11
    have f98 := slot_bool e98
    go_simp
    exact hI.put' (k := 18) (d := 105) (by decide) (by simp) (by simp) (by simp) hI.wp
  · intro Xs a w hX hdep hC hI
    have x17 : Xs 17 = true := hdep ⟨17, .data⟩ (by simp) rfl
    have e104 := hI.gk 17 rfl x17
    have x18 : Xs 18 = true := hdep ⟨18, .data⟩ (by simp) rfl
    have e105 := hI.gk 18 rfl x18
    have x11 : Xs 11 = true := hdep ⟨11, .guard⟩ (by simp) rfl
    have e98 := hI.gk 11 rfl x11
    have f98 := slot_bool e98
    have q1_19 : (0 : Int) ≤ i := by omega
    have q2_19 : (i : Int) < N := by omega
    go_simp
    exact hI.put' (k := 19) (d := 106) (by decide) (by simp) (by simp) (by simp) hI.wp
  · intro Xs a w hX hdep hC hI
    have x19 : Xs 19 = true := hdep ⟨19, .data⟩ (by simp) rfl
    have e106 := hI.gk 19 rfl x19
    have x11 : Xs 11 = true := hdep ⟨11, .guard⟩ (by simp) rfl
    have e98 := hI.gk 11 rfl x11
    have f98 := slot_bool e98
    go_simp
    exact hI.put' (k := 20) (d := 107) (by decide) (by simp) (by simp) (by simp) hI.wp
  · intro Xs a w hX hdep hC hI
    have x20 : Xs 20 = true := hdep ⟨20, .data⟩ (by simp) rfl
    have e107 := hI.gk 20 rfl x20
    have x11 : Xs 11 = true := hdep ⟨11, .guard⟩ (by simp) rfl
    have e98 := hI.gk 11 rfl x11
    have f98 := slot_bool e98
    have cc0 := la1 w hI.wp
    go_simp
    exact hI.put' (k := 21) (d := 108) (by decide) (by simp) (by simp) (by simp) hI.wp
  · intro Xs a w hX hdep hC hI
    have x16 : Xs 16 = true := hdep ⟨16, .data⟩ (by simp) rfl
    have e103 := hI.gk 16 rfl x16
    have x21 : Xs 21 = true := hdep ⟨21, .data⟩ (by simp) rfl
    have e108 := hI.gk 21 rfl x21
    have x11 : Xs 11 = true := hdep ⟨11, .guard⟩ (by simp) rfl
    have e98 := hI.gk 11 rfl x11
    have f98 := slot_bool e98
    have z1 : ¬ ((l2 : Int) < (l : Int)) := by omega
    have z2 : ¬ (l2 < l) := by omega
    go_simp
    exact hI.put' (k := 22) (d := 109) (by decide) (by simp) (by simp) (by simp) hI.wp
  · intro Xs a w hX hdep hC hI
    have x11 : Xs 11 = true := hdep ⟨11, .data⟩ (by simp) rfl
    have e98 := hI.gk 11 rfl x11
    have x22 : Xs 22 = true := hdep ⟨22, .data⟩ (by simp) rfl
    have e109 := hI.gk 22 rfl x22
    go_simp
    exact hI.put' (k := 23) (d := 110) (by decide) (by simp) (by simp) (by simp) hI.wp
  · intro Xs a w hX hI
    refine hQ a w ⟨hI.size, hI.defers, ?_, hI.wp⟩
    simp only [List.mem_cons, List.not_mem_nil, or_false, forall_eq_or_imp, forall_eq]
    exact ⟨hI.gi 1 rfl, hI.gi 5 rfl, hI.gi 8 rfl, hI.gi 10 rfl, hI.gk 23 rfl (hX 23 (by simp))⟩
set_option maxRecDepth 100000 in
set_option maxHeartbeats 4000000 in
theorem u17 (n : Nat) {G : World → Prop} (hS : Stable G) (p r r2 N : Nat) (hp : p < N) (lb1 : ∀ w, G w → w.cell? ⟨r2, p * 2 + 1, none⟩ = some (.int .u8 15)) (hw : ∀ m w, G w → CallsIn Fence.wide m Try.prog 13 #[] w fun e w' => e = .returned (.bool true) ∧ Below w.heap.size w w') (Q : Exit → Act → World → Prop) (a : Act) (w : World) (h0 : SG [(1, .int .i64 p), (5, .slice (some ⟨r, 0, none⟩) N N), (8, .slice (some ⟨r2, 0, none⟩) N N)] 120 G a w)
    (hQ : ∀ a w, SG [(4, .bool true)] 120 G a w → Q .normal a w) : (regOf 17 C8).wpIn Fence.wide n Try.prog Q a w := by
  simp only [regOf, C8, Try.f8, Option.getD, Nat.reduceBEq, Bool.false_eq_true, if_true, if_false]
  refine region_sq (fun k_ a w => match k_ with | 0 => SG [(1, .int .i64 p), (8, .slice (some ⟨r2, 0, none⟩) N N)] 120 G a w | 1 => SG [(1, .int .i64 p), (111, .slice (some ⟨r2, 0, none⟩) N N)] 120 G a w | 2 => SG [(111, .slice (some ⟨r2, 0, none⟩) N N), (112, .int .i64 p)] 120 G a w | 3 => SG [(113, .pointer (some ⟨r2, p * 2, none⟩))] 120 G a w | 4 => SG [(114, .pointer (some ⟨r2, p * 2 + 1, none⟩))] 120 G a w | 5 => SG [(115, .int .u8 15)] 120 G a w | 6 => SG [(116, .bool true)] 120 G a w | 7 => SG [(117, .bool true)] 120 G a w | 8 => SG [(117, .bool true), (118, .bool true)] 120 G a w | 9 => SG [(119, .bool true)] 120 G a w | _ => SG [(4, .bool true)] 120 G a w) (show SG _ _ G a w from h0.sub (by intro p hp; simp only [List.mem_cons, List.not_mem_nil, or_false] at hp ⊢; rcases hp with h | h <;> simp [h])) ⟨?_, ?_, ?_, ?_, ?_, ?_, ?_, ?_, ?_, ?_, trivial⟩ ?_
  · intro a w hI
    have hI : SG _ _ G a w := hI
    have e8 := hI.g 8 rfl
    go_simp
    exact hI.put (d := 111) (by decide) (by simp) hI.wp
  · intro a w hI
    have hI : SG _ _ G a w := hI
    have e1 := hI.g 1 rfl
    go_simp
    exact hI.put (d := 112) (by decide) (by simp) hI.wp
  · intro a w hI
    have hI : SG _ _ G a w := hI
    have e111 := hI.g 111 rfl
    have e112 := hI.g 112 rfl
    have q1_2 : (0 : Int) ≤ p := by omega
    have q2_2 : (p : Int) < N := by omega
    go_simp
    exact hI.put (d := 113) (by decide) (by simp) hI.wp
  · intro a w hI
    have hI : SG _ _ G a w := hI
    have e113 := hI.g 113 rfl
    go_simp
    exact hI.put (d := 114) (by decide) (by simp) hI.wp
  · intro a w hI
    have hI : SG _ _ G a w := hI
    have e114 := hI.g 114 rfl
    have cc0 := lb1 w hI.wp
    go_simp
    exact hI.put (d := 115) (by decide) (by simp) hI.wp
  · intro a w hI
    have hI : SG _ _ G a w := hI
    have e115 := hI.g 115 rfl
    go_simp
    exact hI.put (d := 116) (by decide) (by simp) hI.wp
  · intro a w hI
    have hI : SG _ _ G a w := hI
    have e116 := hI.g 116 rfl
    go_simp
    exact hI.put (d := 117) (by decide) (by simp) hI.wp
  · intro a w hI
    have hI : SG _ _ G a w := hI
    have e117 := hI.g 117 rfl
    have f117 := slot_bool e117
    go_simp
    refine ⟨trivial, fun h => (by cases h), (hw (n - 1) w hI.wp).mono ?_⟩
    rintro e w' ⟨rfl, hb2⟩
    exact hI.put (d := 118) (by decide) (by simp) (hS _ _ hI.wp hb2)
  · intro a w hI
    have hI : SG _ _ G a w := hI
    have e117 := hI.g 117 rfl
    have e118 := hI.g 118 rfl
    go_simp
    exact hI.put (d := 119) (by decide) (by simp) hI.wp
  · intro a w hI
    have hI : SG _ _ G a w := hI
    have e119 := hI.g 119 rfl
    go_simp
    exact hI.put (d := 4) (by decide) (by simp) hI.wp
  · intro a w hI
    have hI : SG _ _ G a w := hI
    exact hQ a w hI
/-! ### A cell that is changed -/
def updA (A : Nat → Int) (p : Nat) (a b : Int) (j : Nat) : Int := if j = p * 2 then a else if j = p * 2 + 1 then b else A j
theorem kd_upd (A : Nat → Int) (p : Nat) (a b : Int) (s : Nat) : kd (updA A p a b) s = if s = p then a.toNat else kd A s := by
  unfold kd updA
  by_cases e : s = p
  · subst e; simp
  · rw [if_neg (by omega), if_neg (by omega), if_neg e]
theorem lv_upd (A : Nat → Int) (p : Nat) (a b : Int) (s : Nat) : lv (updA A p a b) s = if s = p then b.toNat else lv A s := by
  unfold lv updA
  by_cases e : s = p
  · subst e; rw [if_neg (by omega)]; simp
  · rw [if_neg (by omega), if_neg (by omega), if_neg e]
theorem clA_upd (A : Nat → Int) (p : Nat) (a b : Int) (s : Nat) : clA (updA A p a b) s = if s = p then (K.may (a.toNat : Nat) (b.toNat : Nat) && K.clear (a.toNat : Nat)) else clA A s := by
  unfold clA; rw [kd_upd, lv_upd]
  by_cases e : s = p
  · rw [if_pos e, if_pos e, if_pos e]
  · rw [if_neg e, if_neg e, if_neg e]
theorem lmA_upd (A : Nat → Int) (p : Nat) (a b : Int) (s : Nat) : lmA (updA A p a b) s = if s = p then (K.lamp (a.toNat : Nat) (b.toNat : Nat)).toNat else lmA A s := by
  unfold lmA; rw [kd_upd, lv_upd]
  by_cases e : s = p
  · rw [if_pos e, if_pos e, if_pos e]
  · rw [if_neg e, if_neg e, if_neg e]
section
variable {X Y Z N : Nat} {cl cl' : Nat → Bool} {lm lm' : Nat → Nat}
theorem sky_mono (hN : X * Y * Z = N) (hX : 1 ≤ X) (hZ : 1 ≤ Z) (hc : ∀ i, cl' i = true → cl i = true) {i : Nat} (hi : i < N) : (skyL X Y Z cl').getD i 0 ≤ (skyL X Y Z cl).getD i 0 := by
  have h1 := sky_fix (cl := cl) hN
  have h2 := sky_fix (cl := cl') hN
  refine h2.2.le h1.2 (B := 15) (fun i _ => h2.1 i) (fun i => i) (fun i hi hc' => ⟨hi, hc i hc', ?_, fun s hs => ⟨?_, hs⟩⟩) i hi
  · unfold skyS
    split
    · rename_i h
      rw [if_pos]
      · exact Nat.le_refl _
      · exact (skyS_iff hN hX hZ hi).1 fun m hm => hc _ ((skyS_iff hN hX hZ hi).2 h m hm)
    · exact Nat.zero_le _
  · have hi' : i < X * Y * Z := by rw [hN]; exact hi
    have := (Glow.sides_sym X Y Z i s hi' hs).1
    rwa [hN] at this
theorem lamp_mono (hN : X * Y * Z = N) (h15 : ∀ i, lm i ≤ 15) (hc : ∀ i, cl' i = true → cl i = true) (hl : ∀ i, lm' i ≤ lm i) {i : Nat} (hi : i < N) : (lampL X Y Z cl' lm').getD i 0 ≤ (lampL X Y Z cl lm).getD i 0 := by
  have h1 := lamp_fix (cl := cl) hN h15
  have h2 := lamp_fix (cl := cl') (lm := lm') hN (fun i => Nat.le_trans (hl i) (h15 i))
  refine h2.2.le h1.2 (B := 15) (fun i _ => h2.1 i) (fun i => i) (fun i hi hc' => ⟨hi, hc i hc', hl i, fun s hs => ⟨?_, hs⟩⟩) i hi
  have hi' : i < X * Y * Z := by rw [hN]; exact hi
  have := (Glow.sides_sym X Y Z i s hi' hs).1
  rwa [hN] at this
end
section
variable {W0 w : World} {bs : List (Nat × Obj)} {X Y Z N g off g2 c2 p : Nat} {A : Nat → Int} {cur : Array Value}
/-- The cells as a list. -/
def newsA (A : Nat → Int) (N : Nat) : List Value := (List.range (N * 2)).map fun j => .int .u8 (A j)
theorem newsA_get {j : Nat} {u : Value} (h : (newsA A N)[j]? = some u) : j < N * 2 ∧ u = .int .u8 (A j) := by
  unfold newsA at h
  rw [List.getElem?_map, Option.map_eq_some_iff] at h
  obtain ⟨k, hk, rfl⟩ := h
  obtain ⟨h1, h2⟩ := List.getElem?_eq_some_iff.1 hk
  rw [List.length_range] at h1
  rw [List.getElem_range] at h2
  subst h2
  exact ⟨h1, rfl⟩
theorem newsA_len : (newsA A N).length = N * 2 := by simp [newsA]
theorem newsA_one : ∀ u ∈ newsA A N, u.oneCell' = true := by
  intro u hu
  unfold newsA at hu
  obtain ⟨j, _, rfl⟩ := List.mem_map.1 hu
  rfl
theorem cur_get (h1 : cur.size = c2 * 2) (h2 : N ≤ c2) (h3 : cur.toList.take (N * 2) = newsA A N) {j : Nat} (hj : j < N * 2) : cur[j]? = some (.int .u8 (A j)) := by
  have h4 : (cur.toList.take (N * 2))[j]? = some (.int .u8 (A j)) := by rw [h3]; unfold newsA; simp [hj]
  rw [List.getElem?_take, if_pos hj] at h4
  simpa using h4
/-- The changed row. -/
theorem own_row (hr : Row2 W0 g off N A) (h1 : cur.size = c2 * 2) (h2 : N ≤ c2) (h3 : cur.toList.take (N * 2) = newsA A N) (hp : p < N) {a b : Int} (ha : 0 ≤ a ∧ a ≤ 255) (hb : 0 ≤ b ∧ b ≤ 255)
    (hh : Has W0 bs w) (hm : (g2, Obj.cells ((cur.setIfInBounds (p * 2) (.int .u8 a)).setIfInBounds (p * 2 + 1) (.int .u8 b)) 32 (0, 0)) ∈ bs) : Row2 w g2 0 N (updA A p a b) where
  lt := hh.lt hm
  cell := fun j hj => by
    rw [Nat.zero_add]
    refine hh.cell hm ?_
    unfold updA
    rw [Array.getElem?_setIfInBounds, Array.getElem?_setIfInBounds]
    by_cases e1 : j = p * 2
    · rw [if_neg (by omega), if_pos e1.symm, if_pos e1, if_pos (by omega)]
    · rw [if_neg e1]
      by_cases e2 : j = p * 2 + 1
      · rw [if_pos e2.symm, if_pos e2, if_pos (by rw [Array.size_setIfInBounds]; omega)]
      · rw [if_neg (Ne.symm e2), if_neg (Ne.symm e1), if_neg e2]
        exact cur_get h1 h2 h3 hj
  rng := fun j hj => by
    unfold updA
    split
    · exact ha
    · split
      · exact hb
      · exact hr.rng j hj
theorem row_of {M : Nat} {o : Option Addr} {len c : Nat} (hs : Sx.SlIn W0 [.u8, .u8] M (.slice o len c)) (h : 0 < len) : ∃ (g off : Nat) (A : Nat → Int), o = some ⟨g, off, none⟩ ∧ Row2 W0 g off len A := by
  cases hs with
  | nil => omega
  | empty => omega
  | row g off len cap A h0 hc hl hA hr =>
    obtain ⟨cs, t, fr, k1, k2, k3⟩ := hr.blk
    refine ⟨g, off, A, rfl, (Array.getElem?_eq_some_iff.1 k1).1, fun j hj => ?_, fun j hj => ?_⟩
    · have := k3 j hj
      simp only [World.cell?, k1, this]
      have : j % 2 = 0 ∨ j % 2 = 1 := by omega
      rcases this with e | e <;> simp [e]
    · have := hA j
      have e : j % 2 = 0 ∨ j % 2 = 1 := by omega
      simp only [List.length_cons, List.length_nil] at this
      rcases e with e | e <;> simp [e, IntKind.min, IntKind.max, IntKind.signed, IntKind.bits] at this <;> omega
theorem Row2.arg {X Y Z : Int} (hr : Row2 W0 g off N A) (h : chk X Y Z N = 0) : ∃ x y z : Nat, X = x ∧ Y = y ∧ Z = z ∧ Arg W0 x y z N g off A := by
  obtain ⟨h1, h2, h3, h4, h5⟩ := chk_zero h
  obtain ⟨x, rfl⟩ : ∃ x : Nat, X = x := ⟨X.toNat, by omega⟩
  obtain ⟨y, rfl⟩ : ∃ y : Nat, Y = y := ⟨Y.toNat, by omega⟩
  obtain ⟨z, rfl⟩ : ∃ z : Nat, Z = z := ⟨Z.toNat, by omega⟩
  have h6 : N = x * y * z := by
    have : ((x * y * z : Nat) : Int) = (N : Int) := by rw [Int.natCast_mul, Int.natCast_mul]; exact h4
    omega
  exact ⟨x, y, z, rfl, rfl, rfl, by omega, by omega, by omega, h6, h5, hr⟩
end
/-! ### GlowLamp -/
noncomputable def Bd8 : Code := .seq (regOf 15 C8) (.cond (.tmp 110) (.seq (regOf 16 C8) .ret) .skip)
noncomputable def Lp8 : Code := .seq (.seq (regOf 13 C8) (.cond (.tmp 84) .skip (.exit 0))) (.seq (.block 1 Bd8) (regOf 14 C8))
theorem C8_eq : C8 = .seq (regOf 0 C8) (.seq (.seq (regOf 1 C8) (.cond (.tmp 34) (.seq (regOf 2 C8) .ret) .skip)) (.seq (regOf 3 C8) (.seq (.seq (regOf 4 C8) (.cond (.tmp 42) (.seq (regOf 5 C8) .ret) .skip)) (.seq (regOf 6 C8) (.seq (regOf 7 C8) (.seq (regOf 8 C8) (.seq (regOf 9 C8) (.seq (.seq (regOf 10 C8) (.cond (.tmp 80) (.seq (regOf 11 C8) .ret) .skip)) (.seq (.seq (regOf 12 C8) (.block 0 (.loop Lp8))) (.seq (regOf 17 C8) .ret)))))))))) := by kernel_rfl
abbrev A10 (p r r2 N i : Nat) : List (Nat × Value) := [(1, .int .i64 p), (5, .slice (some ⟨r, 0, none⟩) N N), (8, .slice (some ⟨r2, 0, none⟩) N N), (10, .int .i64 i)]
set_option maxHeartbeats 1000000 in
theorem q_loop (n : Nat) {G : World → Prop} (hS : Stable G) {p r r2 N : Nat} (hN : N ≤ 262144) {s l s2 l2 : Nat → Nat}
    (a1 : ∀ i, i < N → ∀ w, G w → w.cell? ⟨r, i * 2, none⟩ = some (.int .u8 (s i))) (a2 : ∀ i, i < N → ∀ w, G w → w.cell? ⟨r, i * 2 + 1, none⟩ = some (.int .u8 (l i)))
    (a3 : ∀ i, i < N → ∀ w, G w → w.cell? ⟨r2, i * 2, none⟩ = some (.int .u8 (s2 i))) (a4 : ∀ i, i < N → ∀ w, G w → w.cell? ⟨r2, i * 2 + 1, none⟩ = some (.int .u8 (l2 i)))
    (hs : ∀ i, i < N → s2 i = s i) (hl : ∀ i, i < N → l i ≤ l2 i) (a : Act) (w : World) (ha : SG (A10 p r r2 N 0) 120 G a w) (Q : Exit → Act → World → Prop)
    (hQ : ∀ a w, SG [(1, .int .i64 p), (5, .slice (some ⟨r, 0, none⟩) N N), (8, .slice (some ⟨r2, 0, none⟩) N N)] 120 G a w → Q .normal a w) : (Code.block 0 (.loop Lp8)).wpIn Fence.wide n Try.prog Q a w := by
  refine wpIn_block (wpIn_loop (fun a w => ∃ i, i ≤ N ∧ SG (A10 p r r2 N i) 120 G a w) (fun a _ => N - slotN 10 a) ⟨0, Nat.zero_le _, ha⟩ ?_)
  rintro a w ⟨i, hin, ha⟩
  have e5 := ha.slot (t := 10) (v := i) (k := .i64) (by simp)
  have hG := ha.wp
  unfold Lp8
  refine wpIn_seq (wpIn_seq (u13 n w p r r2 N i _ a ha.sr ?_))
  intro a1' h1
  have h1 := h1.sg (G := G) hG
  refine wpIn_cond (t := decide (i < N)) (by rw [eval_tmp]; exact h1.kn (84, _) (by simp)) ?_
  by_cases hlt : i < N
  · rw [decide_eq_true hlt]
    refine wpIn_skip (wpIn_seq (wpIn_block ?_))
    unfold Bd8
    refine wpIn_seq (u15 n hS p r r2 N i (s i) (l i) (l2 i) hlt (hl i hlt) (fun w h => by rw [← hs i hlt]; exact a3 i hlt w h) (fun w h => a1 i hlt w h) (fun w h => a4 i hlt w h) (fun w h => a2 i hlt w h) _ a1' w (h1.sub (by simp)) ?_)
    intro a3 w3 h3
    have hG3 := h3.wp
    refine wpIn_cond (t := false) (by rw [eval_tmp]; exact h3.kn (110, .bool false) (by simp)) (wpIn_skip ?_)
    show (regOf 14 C8).wpIn _ _ _ _ _ _
    refine u14 n w3 p r r2 N i (by omega) _ a3 (h3.sub (by simp)).sr ?_
    intro a6 h6
    have h6 : SG (A10 p r r2 N (i + 1)) 120 G a6 w3 := h6.sg hG3
    exact ⟨⟨i + 1, hlt, h6⟩, by rw [e5, h6.slot (t := 10) (v := i + 1) (k := .i64) (by simp)]; omega⟩
  · rw [decide_eq_false hlt]
    refine wpIn_exit ?_
    exact hQ a1' w (h1.sub (by simp))
theorem u1 (n : Nat) (W : World) (B : Nat) (p : Int) (sp : Option Addr) (len cap : Nat) (c3 : W.cell? ⟨B, 3, none⟩ = some (.slice sp len cap)) (hr : 0 < len → ∃ (g off : Nat) (A : Nat → Int), sp = some ⟨g, off, none⟩ ∧ Row2 W g off len A) (Q : Exit → Act → World → Prop) (a : Act) (h0 : SR [(1, .int .i64 p), (2, .pointer (some ⟨B, 0, none⟩))] 120 [] W a W)
    (hQ : ∀ b a, (b = false → ¬ 3000 < len ∧ ¬ p < 0 ∧ ¬ (len : Int) ≤ p ∧ ∀ (g off : Nat) (A : Nat → Int), sp = some ⟨g, off, none⟩ → Row2 W g off len A → kd A p.toNat = 0 ∧ lv A p.toNat = 0) → SR [(1, .int .i64 p), (2, .pointer (some ⟨B, 0, none⟩)), (34, .bool b)] 120 [] W a W → Q .normal a W) : (regOf 1 C8).wpIn Fence.wide n Try.prog Q a W := by
  by_cases h : 3000 < len
  · exact u1a n W B p sp len cap h c3 Q a h0 fun a h1 => hQ true a (fun h => by cases h) h1
  by_cases hp : p < 0
  · exact u1b n W B p sp len cap h hp c3 Q a h0 fun a h1 => hQ true a (fun h => by cases h) h1
  by_cases hl : (len : Int) ≤ p
  · exact u1c n W B p sp len cap h hp hl c3 Q a h0 fun a h1 => hQ true a (fun h => by cases h) h1
  obtain ⟨p, rfl⟩ : ∃ q : Nat, p = q := ⟨p.toNat, by omega⟩
  have hlt : p < len := by omega
  obtain ⟨g, off, A, rfl, hrow⟩ := hr (by omega)
  have same : ∀ (g' off' : Nat) (A' : Nat → Int), some (⟨g, off, none⟩ : Addr) = some ⟨g', off', none⟩ → Row2 W g' off' len A' → kd A' p = kd A p ∧ lv A' p = lv A p := by
    intro g' off' A' e hr'
    cases e
    have k1 := hr'.kind hlt
    have k2 := hr'.level hlt
    rw [hrow.kind hlt] at k1
    rw [hrow.level hlt] at k2
    injection k1 with k1; injection k1 with _ k1
    injection k2 with k2; injection k2 with _ k2
    omega
  by_cases hk : kd A p = 0
  · by_cases hv : lv A p = 0
    · refine u1d n W B g off len cap p h hlt c3 (by rw [hrow.kind hlt, hk]; rfl) (by rw [hrow.level hlt, hv]; rfl) Q a h0 fun a h1 => hQ false a (fun _ => ⟨h, hp, hl, fun g' off' A' e hr' => ?_⟩) h1
      have := same g' off' A' e hr'
      rw [Int.toNat_natCast]
      exact ⟨this.1.trans hk, this.2.trans hv⟩
    · exact u1f n W B g off len cap p h hlt (lv A p) hv c3 (by rw [hrow.kind hlt, hk]; rfl) (hrow.level hlt) Q a h0 fun a h1 => hQ true a (fun h => by cases h) h1
  · exact u1e n W B g off len cap p (kd A p) (lv A p) h hlt hk c3 (hrow.kind hlt) (hrow.level hlt) Q a h0 fun a h1 => hQ true a (fun h => by cases h) h1

set_option maxHeartbeats 1000000 in
theorem glowlamp_in (n M : Nat) (W0 : World) (X Y Z p : Int) (sv : Value) (hs : Sx.SlIn W0 [.u8, .u8] M sv) : CallsIn Fence.wide n Try.prog 8 #[.agg #[.int .i64 X, .int .i64 Y, .int .i64 Z, sv], .int .i64 p] W0 fun e w' => e = .returned (.bool true) ∧ Below W0.heap.size W0 w' := by
  obtain ⟨o, len, c, rfl⟩ : ∃ o len c, sv = .slice o len c := by cases hs <;> exact ⟨_, _, _, rfl⟩
  refine callsIn_of_wp Try.func8 rfl trivial ?_
  show C8.wpIn _ _ _ _ _ _
  rw [C8_eq]
  refine wpIn_seq ?_
  refine u0 n W0 X Y Z p (.slice o len c) _ _ ⟨by simp [Try.ntmps8], rfl, by simp [Try.ntmps8], rfl⟩ ?_
  intro a1 h1
  have hH := (Has.start W0).alloc (.cells #[.int .i64 X, .int .i64 Y, .int .i64 Z, .slice o len c] 24)
  generalize W0.alloc (.cells #[.int .i64 X, .int .i64 Y, .int .i64 Z, .slice o len c] 24) = W1 at h1 hH ⊢
  obtain ⟨B, hB⟩ : ∃ B, B = W0.heap.size := ⟨_, rfl⟩
  rw [← hB] at h1 hH
  have ret : ∀ bs a w, SG [(4, .bool true)] 120 (Has W0 bs) a w → bodyPost Try.prog Try.f8 (fun e w' => e = .returned (.bool true) ∧ Below W0.heap.size W0 w') .ret a w := fun bs a w h =>
    ⟨h.defers, _, results_tmp (t := 4) rfl _ _ _, by rw [Array.getD_eq_getD_getElem?, h.kn (4, .bool true) (by simp)], h.wp.bel⟩
  have cB : ∀ {w}, Has W0 [(B, .cells #[.int .i64 X, .int .i64 Y, .int .i64 Z, .slice o len c] 24 (0, 0))] w → ∀ {k v}, (#[.int .i64 X, .int .i64 Y, .int .i64 Z, .slice o len c] : Array Value)[k]? = some v → w.cell? ⟨B, k, none⟩ = some v := fun hh _ _ hv => hh.cell (t := 24) (fr := (0, 0)) (by simp) hv
  refine wpIn_seq (wpIn_seq (u1 n W1 B p o len c (cB hH rfl) (fun hl => by obtain ⟨g, off, A, e, hr⟩ := row_of hs hl; exact ⟨g, off, A, e, hr.old hH⟩) _ a1 h1 ?_))
  intro b a2 hb h2
  have h2 := h2.sg hH
  cases b with
  | true =>
    refine wpIn_cond (t := true) (by rw [eval_tmp]; exact h2.kn (34, .bool true) (by simp)) ?_
    refine wpIn_seq (u2 n (Has.stable _ _) (fun m w _ => works_in m w) _ a2 W1 (h2.sub (by simp)) ?_)
    intro a3 w3 h3
    exact wpIn_ret (ret _ a3 w3 h3)
  | false =>
  refine wpIn_cond (t := false) (by rw [eval_tmp]; exact h2.kn (34, .bool false) (by simp)) (wpIn_skip ?_)
  obtain ⟨hb1, hb2, hb3, hb4⟩ := hb rfl
  obtain ⟨p, rfl⟩ : ∃ q : Nat, p = q := ⟨p.toNat, by omega⟩
  obtain ⟨g, off, A, rfl, hrow⟩ := row_of hs (by omega)
  have hp : p < len := by omega
  by_cases hc : chk X Y Z len = 0
  · obtain ⟨x, y, z, rfl, rfl, rfl, h⟩ := hrow.arg hc
    have hN := h.le
    refine wpIn_seq (u3 n p B x y z (some ⟨g, off, none⟩) len c len (fun r => Has W0 (bs5 x y z len g off c r B A)) (fun w h => cB h rfl) (fun w h => cB h rfl) (fun w h => cB h rfl) (fun w h => cB h rfl)
      (fun m w hh => light_has m (h.row.old hh) h.x h.y h.z h.n h.le hh) _ a2 W1 (h2.sub (by simp)) ?_)
    intro r a3 w3 h3
    have hG3 := h3.wp
    refine wpIn_seq (wpIn_seq (u4g n w3 B p r len 0 _ a3 h3.sr ?_))
    intro a4 h4
    refine wpIn_cond (t := false) (by rw [eval_tmp]; exact h4.kn (42, .bool ((0 : Int) != 0)) (by simp)) (wpIn_skip ?_)
    refine wpIn_seq (u6 n w3 B p r len _ a4 (h4.sub (by simp)) ?_)
    intro a5 h5
    have hbx : ∀ {bs w}, (∀ q ∈ bs5 x y z len g off c r B A, q ∈ bs) → Has W0 bs w → ∀ {k v}, (#[.int .i64 x, .int .i64 y, .int .i64 z, .slice (some ⟨g, off, none⟩) len c] : Array Value)[k]? = some v → w.cell? ⟨B, k, none⟩ = some v := fun hm hh _ _ hv => boxs5 hm hh hv
    refine wpIn_seq (u7 n B p r len g off c (fun w hh => hbx (fun _ h => h) hh rfl) (newsA A len) newsA_len (fun w hh j u hj => by
        obtain ⟨k1, rfl⟩ := newsA_get hj
        exact hh.old h.row.lt (h.row.cell j k1)) newsA_one (by omega) h.le
      (fun g2 c2 cur w => Has W0 ((g2, .cells cur 32 (0, 0)) :: bs5 x y z len g off c r B A) w ∧ cur.size = c2 * 2 ∧ len ≤ c2 ∧ cur.toList.take (len * 2) = newsA A len)
      (fun w w' c2 cur hh hb ho k1 k2 k3 => ⟨hh.add hb (Nat.le_refl _) ho, k1, k2, k3⟩) _ a5 w3 (h5.sg hG3) ?_)
    intro g2 c2 cur a6 w6 h6
    obtain ⟨hG6, k1, k2, k3⟩ := h6.wp
    obtain ⟨cur', hcur⟩ : ∃ cur', cur' = (cur.setIfInBounds (p * 2) (.int .u8 11)).setIfInBounds (p * 2 + 1) (.int .u8 15) := ⟨_, rfl⟩
    refine wpIn_seq (u8 n (G := Has W0 ((g2, .cells cur 32 (0, 0)) :: bs5 x y z len g off c r B A)) (G1 := Has W0 ((g2, .cells cur' 32 (0, 0)) :: bs5 x y z len g off c r B A)) B p r len g2 c2 hp
      (fun w hh => ⟨⟨_, hh.cell List.mem_cons_self (cur_get k1 k2 k3 (by omega))⟩, ⟨_, hh.cell List.mem_cons_self (cur_get k1 k2 k3 (by omega))⟩⟩)
      (fun w hh => ⟨hh.unfrozen List.mem_cons_self _, hh.unfrozen List.mem_cons_self _⟩)
      (fun w hh => by rw [hcur]; exact (hh.set (m := p * 2) (.int .u8 11)).set (m := p * 2 + 1) (.int .u8 15)) _ a6 w6 (h6.sr.sg hG6) ?_)
    intro a7 w7 h7
    have hrow2 : ∀ {bs w}, Has W0 bs w → (g2, Obj.cells cur' 32 (0, 0)) ∈ bs → Row2 w g2 0 len (updA A p 11 15) := fun hh hm => own_row h.row k1 k2 k3 hp (by decide) (by decide) hh (by rw [← hcur]; exact hm)
    refine wpIn_seq (u9 n B p r g2 c2 x y z len (fun r2 => Has W0 ((r2, .cells (pairsV (skyL x y z (clA (updA A p 11 15))) (lampL x y z (clA (updA A p 11 15)) (lmA (updA A p 11 15))) len len) 37 (0, 0)) :: (g2, .cells cur' 32 (0, 0)) :: bs5 x y z len g off c r B A))
      (fun w hh => hbx (fun q hq => List.mem_cons_of_mem _ hq) hh rfl) (fun w hh => hbx (fun q hq => List.mem_cons_of_mem _ hq) hh rfl) (fun w hh => hbx (fun q hq => List.mem_cons_of_mem _ hq) hh rfl)
      (fun m w hh => light_has m (hrow2 hh List.mem_cons_self) h.x h.y h.z h.n h.le hh) _ a7 w7 h7 ?_)
    intro r2 a8 w8 h8
    have hG8 := h8.wp
    have sub2 : ∀ {p1 p2 : Nat × Obj}, ∀ q ∈ bs5 x y z len g off c r B A, q ∈ p1 :: p2 :: bs5 x y z len g off c r B A := fun _ hq => List.mem_cons_of_mem _ (List.mem_cons_of_mem _ hq)
    refine wpIn_seq (wpIn_seq (u10 n w8 B p r r2 len (some ⟨g, off, none⟩) c (hbx sub2 hG8 rfl) _ a8 h8.sr ?_))
    intro a9 h9
    refine wpIn_cond (t := false) (by rw [eval_tmp]; exact h9.kn (80, .bool false) (by simp)) (wpIn_skip ?_)
    refine wpIn_seq (wpIn_seq (u12 n w8 p r r2 len _ a9 (h9.sub (by simp)) ?_))
    intro a10 h10
    obtain ⟨hkd, hlv⟩ := hb4 g off A rfl (h.row.old hH)
    rw [Int.toNat_natCast] at hkd hlv
    have hcl : clA (updA A p 11 15) = clA A := by
      funext i
      rw [clA_upd]
      by_cases e : i = p
      · subst e; rw [if_pos rfl]; unfold clA; rw [hkd, hlv]; decide
      · rw [if_neg e]
    have hlm : ∀ i, lmA A i ≤ lmA (updA A p 11 15) i := by
      intro i
      rw [lmA_upd]
      by_cases e : i = p
      · subst e; rw [if_pos rfl]; unfold lmA; rw [hkd, hlv]; decide
      · rw [if_neg e]; exact Nat.le_refl _
    have h15 : lmA (updA A p 11 15) p = 15 := by rw [lmA_upd, if_pos rfl]; decide
    have hclr : clA (updA A p 11 15) p = true := by rw [clA_upd, if_pos rfl]; decide
    have hsk : ∀ i, i < len → (skyL x y z (clA (updA A p 11 15))).getD i 0 = (skyL x y z (clA A)).getD i 0 := fun i hi => by rw [hcl]
    have hla : ∀ i, i < len → (lampL x y z (clA A) (lmA A)).getD i 0 ≤ (lampL x y z (clA (updA A p 11 15)) (lmA (updA A p 11 15))).getD i 0 := fun i hi => lamp_mono h.n.symm (lmA_le _) (fun i hi => by rw [hcl]; exact hi) hlm hi
    have hz2 : (lampL x y z (clA (updA A p 11 15)) (lmA (updA A p 11 15))).getD p 0 = 15 := by
      have k := lamp_fix (cl := clA (updA A p 11 15)) h.n.symm (lmA_le (updA A p 11 15))
      have k1 : (lampL x y z (clA (updA A p 11 15)) (lmA (updA A p 11 15))).getD p 0 = _ := k.2 p hp
      have k2 := k.1 p
      rw [if_pos hclr, h15] at k1
      have k3 : 15 ≤ (lampL x y z (clA (updA A p 11 15)) (lmA (updA A p 11 15))).getD p 0 := by rw [k1]; exact Nat.le_max_left _ _
      omega
    refine q_loop n (Has.stable _ _) (s := fun i => (skyL x y z (clA A)).getD i 0) (l := fun i => (lampL x y z (clA A) (lmA A)).getD i 0) (s2 := fun i => (skyL x y z (clA (updA A p 11 15))).getD i 0) (l2 := fun i => (lampL x y z (clA (updA A p 11 15)) (lmA (updA A p 11 15))).getD i 0) h.le
      (fun i hi w hh => lights5 sub2 hh (pair_sky _ _ hi)) (fun i hi w hh => lights5 sub2 hh (pair_lamp _ _ hi)) (fun i hi w hh => hh.cell List.mem_cons_self (pair_sky _ _ hi)) (fun i hi w hh => hh.cell List.mem_cons_self (pair_lamp _ _ hi)) hsk hla a10 w8 (h10.sg hG8) _ ?_
    intro a11 w11 h11
    refine wpIn_seq (u17 n (Has.stable _ _) p r r2 len hp (fun w hh => by have := hh.cell List.mem_cons_self (pair_lamp (skyL x y z (clA (updA A p 11 15))) (lampL x y z (clA (updA A p 11 15)) (lmA (updA A p 11 15))) hp); rw [hz2] at this; exact this) (fun m w _ => works_in m w) _ a11 w11 h11 ?_)
    intro a12 w12 h12
    exact wpIn_ret (ret _ a12 w12 h12)
  · refine wpIn_seq (u3b n (Has.stable _ _) p B X Y Z (some ⟨g, off, none⟩) len c (chk X Y Z len) (fun w h => cB h rfl) (fun w h => cB h rfl) (fun w h => cB h rfl) (fun w h => cB h rfl) (fun m w _ => light_bad m X Y Z (some ⟨g, off, none⟩) len c w hc) _ a2 W1 (h2.sub (by simp)) ?_)
    intro a3 w3 h3
    have hG3 := h3.wp
    refine wpIn_seq (wpIn_seq (u4 n w3 (chk X Y Z len) _ a3 (h3.sub (by simp)).sr ?_))
    intro a4 h4
    refine wpIn_cond (t := true) (by rw [eval_tmp, h4.kn (42, .bool (chk X Y Z len != 0)) (by simp)]; simp [hc]) ?_
    refine wpIn_seq (u5 n (Has.stable _ _) (fun m w _ => works_in m w) _ a4 w3 ((h4.sg hG3).sub (by simp)) ?_)
    intro a5 w5 h5
    exact wpIn_ret (ret _ a5 w5 h5)
end Go.Proofs.Ytmgiabehooghcaa
