/- Glow: the walk of a law. -/
import Derived.RangeFuncNested
import Derived.RangeFuncBound
import Derived.RangeFuncCalls
import Derived.RangeFuncLeaves
import Derived.Shelf.Abstract
import Derived.Shelf.RegionOpen
import Derived.WalkKit
import Derived.OwnWalkIn
import Derived.TacticsInMore
import Derived.LoopNIn
import Derived.LoopIn
import Derived.Lib.Hide
import Derived.IntWalk
import Derived.Maps.AppendAt
import Derived.Test.YtmgiabehooghcaaKc
import Derived.Test.YtmgiabehooghcaaGin
import Derived.Test.YtmgiabehooghcaaH5
set_option linter.unusedVariables false
set_option linter.unusedSimpArgs false
namespace Go.Proofs.Ytmgiabehooghcaa
open Go.RowKit Go.Shelf
attribute [local go_sem] Oper.semAt_some

/-! ### GlowTurned: its parts -/
noncomputable def C9 : Code := Try.f9.body.getD .skip
theorem info32 : (Try.prog.info? 32).map (fun i => (i.zero, i.size, i.bytes)) = some (some (.agg #[.int .u8 0, .int .u8 0]), 2, 2) := by kernel_rfl
theorem under22 : Try.prog.underlying 22 = some (.slice 32) := by kernel_rfl
set_option maxRecDepth 100000 in
set_option maxHeartbeats 4000000 in
theorem v0 (n : Nat) (W : World) (X Y Z : Int) (cv : Value) (Q : Exit → Act → World → Prop) (a : Act) (h0 : SR [(0, .agg #[.int .i64 X, .int .i64 Y, .int .i64 Z, cv])] 218 [] W a W)
    (hQ : ∀ a, SR [(1, .pointer (some ⟨W.heap.size, 0, none⟩))] 218 [] (W.alloc (.cells #[.int .i64 X, .int .i64 Y, .int .i64 Z, cv] 24)) a (W.alloc (.cells #[.int .i64 X, .int .i64 Y, .int .i64 Z, cv] 24)) → Q .normal a (W.alloc (.cells #[.int .i64 X, .int .i64 Y, .int .i64 Z, cv] 24))) : (regOf 0 C9).wpIn Fence.wide n Try.prog Q a W := by
  simp only [regOf, C9, Try.f9, Option.getD, Nat.reduceBEq, Bool.false_eq_true, if_true, if_false]
  refine region_sq (fun k_ a w => match k_ with | 0 => SR [(0, .agg #[.int .i64 X, .int .i64 Y, .int .i64 Z, cv])] 218 [] (W) a w | 1 => SR [(1, .pointer (some ⟨W.heap.size, 0, none⟩))] 218 [] (W.alloc (.cells #[.int .i64 X, .int .i64 Y, .int .i64 Z, cv] 24)) a w | _ => SR [(1, .pointer (some ⟨W.heap.size, 0, none⟩))] 218 [] (W.alloc (.cells #[.int .i64 X, .int .i64 Y, .int .i64 Z, cv] 24)) a w) (show SR _ _ _ _ a W from h0) ⟨?_, ?_, trivial⟩ ?_
  · intro a w hI
    have hI : SR _ _ _ _ a w := hI
    have e0 := hI.g 0 rfl
    have hw : w = W := hI.wp
    subst hw
    go_simp
    exact hI.put (d := 1) (by decide) (by simp)
  · intro a w hI
    have hI : SR _ _ _ _ a w := hI
    obtain rfl := hI.wp
    go_simp
    exact hI.put (d := 2) (by decide) (by simp)
  · intro a w hI
    have hI : SR _ _ _ _ a w := hI
    obtain rfl := hI.wp
    exact hQ a hI
set_option maxRecDepth 100000 in
set_option maxHeartbeats 4000000 in
theorem v1 (n : Nat) (W : World) (B : Nat) (sp : Option Addr) (len cap : Nat) (c3 : W.cell? ⟨B, 3, none⟩ = some (.slice sp len cap)) (Q : Exit → Act → World → Prop) (a : Act) (h0 : SR [(1, .pointer (some ⟨B, 0, none⟩))] 218 [] W a W)
    (hQ : ∀ a, SR [(1, .pointer (some ⟨B, 0, none⟩)), (22, .bool (decide ((3000 : Int) < len)))] 218 [] (W) a (W) → Q .normal a (W)) : (regOf 1 C9).wpIn Fence.wide n Try.prog Q a W := by
  simp only [regOf, C9, Try.f9, Option.getD, Nat.reduceBEq, Bool.false_eq_true, if_true, if_false]
  refine region_sq (fun k_ a w => match k_ with | 0 => SR [(1, .pointer (some ⟨B, 0, none⟩))] 218 [] (W) a w | 1 => SR [(1, .pointer (some ⟨B, 0, none⟩)), (19, .pointer (some ⟨B, 3, none⟩))] 218 [] (W) a w | 2 => SR [(1, .pointer (some ⟨B, 0, none⟩)), (20, .slice sp len cap)] 218 [] (W) a w | 3 => SR [(1, .pointer (some ⟨B, 0, none⟩)), (21, .int .i64 len)] 218 [] (W) a w | _ => SR [(1, .pointer (some ⟨B, 0, none⟩)), (22, .bool (decide ((3000 : Int) < len)))] 218 [] (W) a w) (show SR _ _ _ _ a W from h0) ⟨?_, ?_, ?_, ?_, trivial⟩ ?_
  · intro a w hI
    have hI : SR _ _ _ _ a w := hI
    have e1 := hI.g 1 rfl
    have hw : w = W := hI.wp
    subst hw
    go_simp
    exact hI.put (d := 19) (by decide) (by simp)
  · intro a w hI
    have hI : SR _ _ _ _ a w := hI
    have e19 := hI.g 19 rfl
    have hw : w = W := hI.wp
    subst hw
    go_simp
    exact hI.put (d := 20) (by decide) (by simp)
  · intro a w hI
    have hI : SR _ _ _ _ a w := hI
    have e20 := hI.g 20 rfl
    have hw : w = W := hI.wp
    subst hw
    go_simp
    exact hI.put (d := 21) (by decide) (by simp)
  · intro a w hI
    have hI : SR _ _ _ _ a w := hI
    have e21 := hI.g 21 rfl
    have hw : w = W := hI.wp
    subst hw
    go_simp
    exact hI.put (d := 22) (by decide) (by simp)
  · intro a w hI
    have hI : SR _ _ _ _ a w := hI
    have hw : w = W := hI.wp
    subst hw
    exact hQ a hI
set_option maxRecDepth 100000 in
set_option maxHeartbeats 4000000 in
theorem v2 (n : Nat) {G : World → Prop} (hS : Stable G)  (hw : ∀ m w, G w → CallsIn Fence.wide m Try.prog 13 #[] w fun e w' => e = .returned (.bool true) ∧ Below w.heap.size w w') (Q : Exit → Act → World → Prop) (a : Act) (w : World) (h0 : SG [] 218 G a w)
    (hQ : ∀ a w, SG [(2, .bool true)] 218 G a w → Q .normal a w) : (regOf 2 C9).wpIn Fence.wide n Try.prog Q a w := by
  simp only [regOf, C9, Try.f9, Option.getD, Nat.reduceBEq, Bool.false_eq_true, if_true, if_false]
  refine region_sq (fun k_ a w => match k_ with | 0 => SG [] 218 G a w | 1 => SG [(23, .bool true)] 218 G a w | _ => SG [(2, .bool true)] 218 G a w) (show SG _ _ G a w from h0) ⟨?_, ?_, trivial⟩ ?_
  · intro a w hI
    have hI : SG _ _ G a w := hI
    go_simp
    refine ⟨trivial, fun h => (by cases h), (hw (n - 1) w hI.wp).mono ?_⟩
    rintro e w' ⟨rfl, hb2⟩
    exact hI.put (d := 23) (by decide) (by simp) (hS _ _ hI.wp hb2)
  · intro a w hI
    have hI : SG _ _ G a w := hI
    have e23 := hI.g 23 rfl
    go_simp
    exact hI.put (d := 2) (by decide) (by simp) hI.wp
  · intro a w hI
    have hI : SG _ _ G a w := hI
    exact hQ a w hI
set_option maxRecDepth 100000 in
set_option maxHeartbeats 4000000 in
theorem v3b (n : Nat) {G : World → Prop} (hS : Stable G) (B : Nat) (X Y Z : Int) (sp : Option Addr) (len cap : Nat) (er : Int) (c0 : ∀ w, G w → w.cell? ⟨B, 0, none⟩ = some (.int .i64 X)) (c1 : ∀ w, G w → w.cell? ⟨B, 1, none⟩ = some (.int .i64 Y)) (c2_ : ∀ w, G w → w.cell? ⟨B, 2, none⟩ = some (.int .i64 Z)) (c3 : ∀ w, G w → w.cell? ⟨B, 3, none⟩ = some (.slice sp len cap)) (hc : ∀ m w, G w → CallsIn Fence.wide m Try.prog 14 #[.agg #[.int .i64 X, .int .i64 Y, .int .i64 Z, .slice sp len cap]] w fun e w' => e = .returned (.tuple #[.slice none 0 0, .int .i64 er]) ∧ Below w.heap.size w w') (Q : Exit → Act → World → Prop) (a : Act) (w : World) (h0 : SG [(1, .pointer (some ⟨B, 0, none⟩))] 218 G a w)
    (hQ : ∀ a w, SG [(1, .pointer (some ⟨B, 0, none⟩)), (4, .int .i64 er)] 218 G a w → Q .normal a w) : (regOf 3 C9).wpIn Fence.wide n Try.prog Q a w := by
  simp only [regOf, C9, Try.f9, Option.getD, Nat.reduceBEq, Bool.false_eq_true, if_true, if_false]
  refine region_sq (fun k_ a w => match k_ with | 0 => SG [(1, .pointer (some ⟨B, 0, none⟩))] 218 G a w | 1 => SG [(1, .pointer (some ⟨B, 0, none⟩)), (25, .agg #[.int .i64 X, .int .i64 Y, .int .i64 Z, .slice sp len cap])] 218 G a w | 2 => SG [(1, .pointer (some ⟨B, 0, none⟩)), (26, .tuple #[.slice none 0 0, .int .i64 er])] 218 G a w | 3 => SG [(1, .pointer (some ⟨B, 0, none⟩)), (24, .tuple #[.slice none 0 0, .int .i64 er])] 218 G a w | 4 => SG [(1, .pointer (some ⟨B, 0, none⟩)), (24, .tuple #[.slice none 0 0, .int .i64 er]), (27, .slice none 0 0)] 218 G a w | 5 => SG [(1, .pointer (some ⟨B, 0, none⟩)), (27, .slice none 0 0), (28, .int .i64 er)] 218 G a w | 6 => SG [(1, .pointer (some ⟨B, 0, none⟩)), (28, .int .i64 er)] 218 G a w | _ => SG [(1, .pointer (some ⟨B, 0, none⟩)), (4, .int .i64 er)] 218 G a w) (show SG _ _ G a w from h0) ⟨?_, ?_, ?_, ?_, ?_, ?_, ?_, trivial⟩ ?_
  · intro a w hI
    have hI : SG _ _ G a w := hI
    have e1 := hI.g 1 rfl
    have cc0 := c0 w hI.wp
    have cc1 := c1 w hI.wp
    have cc2 := c2_ w hI.wp
    have cc3 := c3 w hI.wp
    go_simp
    exact hI.put (d := 25) (by decide) (by simp) hI.wp
  · intro a w hI
    have hI : SG _ _ G a w := hI
    have e25 := hI.g 25 rfl
    go_simp
    refine ⟨trivial, fun h => (by cases h), (hc (n - 1) w hI.wp).mono ?_⟩
    rintro e w' ⟨rfl, hb2⟩
    exact hI.put (d := 26) (by decide) (by simp) (hS _ _ hI.wp hb2)
  · intro a w hI
    have hI : SG _ _ G a w := hI
    have e26 := hI.g 26 rfl
    go_simp
    exact hI.put (d := 24) (by decide) (by simp) hI.wp
  · intro a w hI
    have hI : SG _ _ G a w := hI
    have e24 := hI.g 24 rfl
    go_simp
    exact hI.put (d := 27) (by decide) (by simp) hI.wp
  · intro a w hI
    have hI : SG _ _ G a w := hI
    have e24 := hI.g 24 rfl
    go_simp
    exact hI.put (d := 28) (by decide) (by simp) hI.wp
  · intro a w hI
    have hI : SG _ _ G a w := hI
    have e27 := hI.g 27 rfl
    go_simp
    exact hI.put (d := 3) (by decide) (by simp) hI.wp
  · intro a w hI
    have hI : SG _ _ G a w := hI
    have e28 := hI.g 28 rfl
    go_simp
    exact hI.put (d := 4) (by decide) (by simp) hI.wp
  · intro a w hI
    have hI : SG _ _ G a w := hI
    exact hQ a w hI
set_option maxRecDepth 100000 in
set_option maxHeartbeats 4000000 in
theorem v3 (n : Nat) {G : World → Prop} (B : Nat) (X Y Z : Int) (sp : Option Addr) (len cap : Nat) (N : Nat) (G1 : Nat → World → Prop) (c0 : ∀ w, G w → w.cell? ⟨B, 0, none⟩ = some (.int .i64 X)) (c1 : ∀ w, G w → w.cell? ⟨B, 1, none⟩ = some (.int .i64 Y)) (c2_ : ∀ w, G w → w.cell? ⟨B, 2, none⟩ = some (.int .i64 Z)) (c3 : ∀ w, G w → w.cell? ⟨B, 3, none⟩ = some (.slice sp len cap)) (hc : ∀ m w, G w → CallsIn Fence.wide m Try.prog 14 #[.agg #[.int .i64 X, .int .i64 Y, .int .i64 Z, .slice sp len cap]] w fun e w' => ∃ (r : Nat), e = .returned (.tuple #[.slice (some ⟨r, 0, none⟩) N N, .int .i64 0]) ∧ (G1 r) w') (Q : Exit → Act → World → Prop) (a : Act) (w : World) (h0 : SG [(1, .pointer (some ⟨B, 0, none⟩))] 218 G a w)
    (hQ : ∀ (r : Nat) a w, SG [(1, .pointer (some ⟨B, 0, none⟩)), (3, .slice (some ⟨r, 0, none⟩) N N), (4, .int .i64 0)] 218 (G1 r) a w → Q .normal a w) : (regOf 3 C9).wpIn Fence.wide n Try.prog Q a w := by
  simp only [regOf, C9, Try.f9, Option.getD, Nat.reduceBEq, Bool.false_eq_true, if_true, if_false]
  refine region_sq (fun k_ a w => match k_ with | 0 => SG [(1, .pointer (some ⟨B, 0, none⟩))] 218 G a w | 1 => SG [(1, .pointer (some ⟨B, 0, none⟩)), (25, .agg #[.int .i64 X, .int .i64 Y, .int .i64 Z, .slice sp len cap])] 218 G a w | 2 => ∃ (r : Nat), SG [(1, .pointer (some ⟨B, 0, none⟩)), (26, .tuple #[.slice (some ⟨r, 0, none⟩) N N, .int .i64 0])] 218 (G1 r) a w | 3 => ∃ (r : Nat), SG [(1, .pointer (some ⟨B, 0, none⟩)), (24, .tuple #[.slice (some ⟨r, 0, none⟩) N N, .int .i64 0])] 218 (G1 r) a w | 4 => ∃ (r : Nat), SG [(1, .pointer (some ⟨B, 0, none⟩)), (24, .tuple #[.slice (some ⟨r, 0, none⟩) N N, .int .i64 0]), (27, .slice (some ⟨r, 0, none⟩) N N)] 218 (G1 r) a w | 5 => ∃ (r : Nat), SG [(1, .pointer (some ⟨B, 0, none⟩)), (27, .slice (some ⟨r, 0, none⟩) N N), (28, .int .i64 0)] 218 (G1 r) a w | 6 => ∃ (r : Nat), SG [(1, .pointer (some ⟨B, 0, none⟩)), (28, .int .i64 0), (3, .slice (some ⟨r, 0, none⟩) N N)] 218 (G1 r) a w | _ => ∃ (r : Nat), SG [(1, .pointer (some ⟨B, 0, none⟩)), (3, .slice (some ⟨r, 0, none⟩) N N), (4, .int .i64 0)] 218 (G1 r) a w) (show SG _ _ G a w from h0) ⟨?_, ?_, ?_, ?_, ?_, ?_, ?_, trivial⟩ ?_
  · intro a w hI
    have hI : SG _ _ G a w := hI
    have e1 := hI.g 1 rfl
    have cc0 := c0 w hI.wp
    have cc1 := c1 w hI.wp
    have cc2 := c2_ w hI.wp
    have cc3 := c3 w hI.wp
    go_simp
    exact hI.put (d := 25) (by decide) (by simp) hI.wp
  · intro a w hI
    have hI : SG _ _ G a w := hI
    have e25 := hI.g 25 rfl
    go_simp
    refine ⟨trivial, fun h => (by cases h), (hc (n - 1) w hI.wp).mono ?_⟩
    rintro e w' ⟨r, rfl, hg2⟩
    exact ⟨r, hI.put (d := 26) (by decide) (by simp) hg2⟩
  · rintro a w ⟨r, hI⟩
    have e26 := hI.g 26 rfl
    go_simp
    exact ⟨r, hI.put (d := 24) (by decide) (by simp) hI.wp⟩
  · rintro a w ⟨r, hI⟩
    have e24 := hI.g 24 rfl
    go_simp
    exact ⟨r, hI.put (d := 27) (by decide) (by simp) hI.wp⟩
  · rintro a w ⟨r, hI⟩
    have e24 := hI.g 24 rfl
    go_simp
    exact ⟨r, hI.put (d := 28) (by decide) (by simp) hI.wp⟩
  · rintro a w ⟨r, hI⟩
    have e27 := hI.g 27 rfl
    go_simp
    exact ⟨r, hI.put (d := 3) (by decide) (by simp) hI.wp⟩
  · rintro a w ⟨r, hI⟩
    have e28 := hI.g 28 rfl
    go_simp
    exact ⟨r, hI.put (d := 4) (by decide) (by simp) hI.wp⟩
  · rintro a w ⟨r, hI⟩
    exact hQ r a w hI
set_option maxRecDepth 100000 in
set_option maxHeartbeats 4000000 in
theorem v4 (n : Nat) (W : World) (er : Int) (Q : Exit → Act → World → Prop) (a : Act) (h0 : SR [(4, .int .i64 er)] 218 [] W a W)
    (hQ : ∀ a, SR [(30, .bool (er != 0))] 218 [] (W) a (W) → Q .normal a (W)) : (regOf 4 C9).wpIn Fence.wide n Try.prog Q a W := by
  simp only [regOf, C9, Try.f9, Option.getD, Nat.reduceBEq, Bool.false_eq_true, if_true, if_false]
  refine region_sq (fun k_ a w => match k_ with | 0 => SR [(4, .int .i64 er)] 218 [] (W) a w | 1 => SR [(29, .int .i64 er)] 218 [] (W) a w | _ => SR [(30, .bool (er != 0))] 218 [] (W) a w) (show SR _ _ _ _ a W from h0) ⟨?_, ?_, trivial⟩ ?_
  · intro a w hI
    have hI : SR _ _ _ _ a w := hI
    have e4 := hI.g 4 rfl
    have hw : w = W := hI.wp
    subst hw
    go_simp
    exact hI.put (d := 29) (by decide) (by simp)
  · intro a w hI
    have hI : SR _ _ _ _ a w := hI
    have e29 := hI.g 29 rfl
    have hw : w = W := hI.wp
    subst hw
    go_simp
    exact hI.put (d := 30) (by decide) (by simp)
  · intro a w hI
    have hI : SR _ _ _ _ a w := hI
    have hw : w = W := hI.wp
    subst hw
    exact hQ a hI
set_option maxRecDepth 100000 in
set_option maxHeartbeats 4000000 in
theorem v4g (n : Nat) (W : World) (B r N : Nat) (er : Int) (Q : Exit → Act → World → Prop) (a : Act) (h0 : SR [(1, .pointer (some ⟨B, 0, none⟩)), (3, .slice (some ⟨r, 0, none⟩) N N), (4, .int .i64 er)] 218 [] W a W)
    (hQ : ∀ a, SR [(1, .pointer (some ⟨B, 0, none⟩)), (3, .slice (some ⟨r, 0, none⟩) N N), (30, .bool (er != 0))] 218 [] (W) a (W) → Q .normal a (W)) : (regOf 4 C9).wpIn Fence.wide n Try.prog Q a W := by
  simp only [regOf, C9, Try.f9, Option.getD, Nat.reduceBEq, Bool.false_eq_true, if_true, if_false]
  refine region_sq (fun k_ a w => match k_ with | 0 => SR [(1, .pointer (some ⟨B, 0, none⟩)), (3, .slice (some ⟨r, 0, none⟩) N N), (4, .int .i64 er)] 218 [] (W) a w | 1 => SR [(1, .pointer (some ⟨B, 0, none⟩)), (3, .slice (some ⟨r, 0, none⟩) N N), (29, .int .i64 er)] 218 [] (W) a w | _ => SR [(1, .pointer (some ⟨B, 0, none⟩)), (3, .slice (some ⟨r, 0, none⟩) N N), (30, .bool (er != 0))] 218 [] (W) a w) (show SR _ _ _ _ a W from h0) ⟨?_, ?_, trivial⟩ ?_
  · intro a w hI
    have hI : SR _ _ _ _ a w := hI
    have e4 := hI.g 4 rfl
    have hw : w = W := hI.wp
    subst hw
    go_simp
    exact hI.put (d := 29) (by decide) (by simp)
  · intro a w hI
    have hI : SR _ _ _ _ a w := hI
    have e29 := hI.g 29 rfl
    have hw : w = W := hI.wp
    subst hw
    go_simp
    exact hI.put (d := 30) (by decide) (by simp)
  · intro a w hI
    have hI : SR _ _ _ _ a w := hI
    have hw : w = W := hI.wp
    subst hw
    exact hQ a hI
set_option maxRecDepth 100000 in
set_option maxHeartbeats 4000000 in
theorem v5 (n : Nat) {G : World → Prop} (hS : Stable G)  (hw : ∀ m w, G w → CallsIn Fence.wide m Try.prog 13 #[] w fun e w' => e = .returned (.bool true) ∧ Below w.heap.size w w') (Q : Exit → Act → World → Prop) (a : Act) (w : World) (h0 : SG [] 218 G a w)
    (hQ : ∀ a w, SG [(2, .bool true)] 218 G a w → Q .normal a w) : (regOf 5 C9).wpIn Fence.wide n Try.prog Q a w := by
  simp only [regOf, C9, Try.f9, Option.getD, Nat.reduceBEq, Bool.false_eq_true, if_true, if_false]
  refine region_sq (fun k_ a w => match k_ with | 0 => SG [] 218 G a w | 1 => SG [(31, .bool true)] 218 G a w | _ => SG [(2, .bool true)] 218 G a w) (show SG _ _ G a w from h0) ⟨?_, ?_, trivial⟩ ?_
  · intro a w hI
    have hI : SG _ _ G a w := hI
    go_simp
    refine ⟨trivial, fun h => (by cases h), (hw (n - 1) w hI.wp).mono ?_⟩
    rintro e w' ⟨rfl, hb2⟩
    exact hI.put (d := 31) (by decide) (by simp) (hS _ _ hI.wp hb2)
  · intro a w hI
    have hI : SG _ _ G a w := hI
    have e31 := hI.g 31 rfl
    go_simp
    exact hI.put (d := 2) (by decide) (by simp) hI.wp
  · intro a w hI
    have hI : SG _ _ G a w := hI
    exact hQ a w hI
set_option maxRecDepth 100000 in
set_option maxHeartbeats 4000000 in
theorem v6 (n : Nat) {G : World → Prop} (B r N : Nat) (sp : Option Addr) (cap : Nat) (c3 : ∀ w, G w → w.cell? ⟨B, 3, none⟩ = some (.slice sp N cap)) (hN2 : N ≤ 262144) (G1 : Nat → World → Prop) (hst : ∀ w, G w → G1 w.heap.size (w.alloc (.cells (madeCells #[.int .u8 0, .int .u8 0] (N * 2)) 32))) (Q : Exit → Act → World → Prop) (a : Act) (w : World) (h0 : SG [(1, .pointer (some ⟨B, 0, none⟩)), (3, .slice (some ⟨r, 0, none⟩) N N)] 218 G a w)
    (hQ : ∀ g2 a w, SG [(1, .pointer (some ⟨B, 0, none⟩)), (3, .slice (some ⟨r, 0, none⟩) N N), (5, .slice (some ⟨g2, 0, none⟩) N N)] 218 (G1 g2) a w → Q .normal a w) : (regOf 6 C9).wpIn Fence.wide n Try.prog Q a w := by
  obtain ⟨i0, hi, hz0, hz1, hz2⟩ := info_parts info32
  simp only [regOf, C9, Try.f9, Option.getD, Nat.reduceBEq, Bool.false_eq_true, if_true, if_false]
  refine region_sq (fun k_ a w => match k_ with | 0 => SG [(1, .pointer (some ⟨B, 0, none⟩)), (3, .slice (some ⟨r, 0, none⟩) N N)] 218 G a w | 1 => SG [(1, .pointer (some ⟨B, 0, none⟩)), (3, .slice (some ⟨r, 0, none⟩) N N), (32, .pointer (some ⟨B, 3, none⟩))] 218 G a w | 2 => SG [(1, .pointer (some ⟨B, 0, none⟩)), (3, .slice (some ⟨r, 0, none⟩) N N), (33, .slice sp N cap)] 218 G a w | 3 => SG [(1, .pointer (some ⟨B, 0, none⟩)), (3, .slice (some ⟨r, 0, none⟩) N N), (34, .int .i64 N)] 218 G a w | 4 => ∃ g2, SG [(1, .pointer (some ⟨B, 0, none⟩)), (3, .slice (some ⟨r, 0, none⟩) N N), (35, .slice (some ⟨g2, 0, none⟩) N N)] 218 (G1 g2) a w | _ => ∃ g2, SG [(1, .pointer (some ⟨B, 0, none⟩)), (3, .slice (some ⟨r, 0, none⟩) N N), (5, .slice (some ⟨g2, 0, none⟩) N N)] 218 (G1 g2) a w) (show SG _ _ G a w from h0) ⟨?_, ?_, ?_, ?_, ?_, trivial⟩ ?_
  · intro a w hI
    have hI : SG _ _ G a w := hI
    have e1 := hI.g 1 rfl
    go_simp
    exact hI.put (d := 32) (by decide) (by simp) hI.wp
  · intro a w hI
    have hI : SG _ _ G a w := hI
    have e32 := hI.g 32 rfl
    have cc0 := c3 w hI.wp
    go_simp
    exact hI.put (d := 33) (by decide) (by simp) hI.wp
  · intro a w hI
    have hI : SG _ _ G a w := hI
    have e33 := hI.g 33 rfl
    go_simp
    exact hI.put (d := 34) (by decide) (by simp) hI.wp
  · intro a w hI
    have hI : SG _ _ G a w := hI
    have e34 := hI.g 34 rfl
    have hmk := run_make (P := Try.prog) w 22 32 i0 (.agg #[.int .u8 0, .int .u8 0]) under22 hi hz0 .i64 .i64 N N (by omega) (Int.le_refl _) (by rw [hz2]; omega) (by omega)
    rw [Int.toNat_natCast, hz1] at hmk
    replace hmk : (Instr.makeSlice 22 (.int .i64 N) (.int .i64 N)).run Try.prog w = .ok (.slice (some ⟨w.heap.size, 0, none⟩) N N) (w.alloc (.cells (madeCells #[.int .u8 0, .int .u8 0] (N * 2)) 32)) := hmk
    go_simp
    exact ⟨w.heap.size, hI.put (d := 35) (by decide) (by simp) (hst w hI.wp)⟩
  · rintro a w ⟨g2, hI⟩
    have e35 := hI.g 35 rfl
    go_simp
    exact ⟨g2, hI.put (d := 5) (by decide) (by simp) hI.wp⟩
  · rintro a w ⟨g2, hI⟩
    exact hQ g2 a w hI
set_option maxRecDepth 100000 in
set_option maxHeartbeats 4000000 in
theorem v7 (n : Nat) {G : World → Prop} (B r g2 N : Nat) (sp : Option Addr) (cap : Nat) (c3 : ∀ w, G w → w.cell? ⟨B, 3, none⟩ = some (.slice sp N cap)) (hN2 : N ≤ 262144) (G1 : Nat → World → Prop) (hst : ∀ w, G w → G1 w.heap.size (w.alloc (.cells (madeCells #[.int .u8 0, .int .u8 0] (N * 2)) 32))) (Q : Exit → Act → World → Prop) (a : Act) (w : World) (h0 : SG [(1, .pointer (some ⟨B, 0, none⟩)), (3, .slice (some ⟨r, 0, none⟩) N N), (5, .slice (some ⟨g2, 0, none⟩) N N)] 218 G a w)
    (hQ : ∀ g3 a w, SG [(1, .pointer (some ⟨B, 0, none⟩)), (3, .slice (some ⟨r, 0, none⟩) N N), (5, .slice (some ⟨g2, 0, none⟩) N N), (6, .slice (some ⟨g3, 0, none⟩) N N)] 218 (G1 g3) a w → Q .normal a w) : (regOf 7 C9).wpIn Fence.wide n Try.prog Q a w := by
  obtain ⟨i0, hi, hz0, hz1, hz2⟩ := info_parts info32
  simp only [regOf, C9, Try.f9, Option.getD, Nat.reduceBEq, Bool.false_eq_true, if_true, if_false]
  refine region_sq (fun k_ a w => match k_ with | 0 => SG [(1, .pointer (some ⟨B, 0, none⟩)), (3, .slice (some ⟨r, 0, none⟩) N N), (5, .slice (some ⟨g2, 0, none⟩) N N)] 218 G a w | 1 => SG [(1, .pointer (some ⟨B, 0, none⟩)), (3, .slice (some ⟨r, 0, none⟩) N N), (5, .slice (some ⟨g2, 0, none⟩) N N), (36, .pointer (some ⟨B, 3, none⟩))] 218 G a w | 2 => SG [(1, .pointer (some ⟨B, 0, none⟩)), (3, .slice (some ⟨r, 0, none⟩) N N), (5, .slice (some ⟨g2, 0, none⟩) N N), (37, .slice sp N cap)] 218 G a w | 3 => SG [(1, .pointer (some ⟨B, 0, none⟩)), (3, .slice (some ⟨r, 0, none⟩) N N), (5, .slice (some ⟨g2, 0, none⟩) N N), (38, .int .i64 N)] 218 G a w | 4 => ∃ g3, SG [(1, .pointer (some ⟨B, 0, none⟩)), (3, .slice (some ⟨r, 0, none⟩) N N), (5, .slice (some ⟨g2, 0, none⟩) N N), (39, .slice (some ⟨g3, 0, none⟩) N N)] 218 (G1 g3) a w | _ => ∃ g3, SG [(1, .pointer (some ⟨B, 0, none⟩)), (3, .slice (some ⟨r, 0, none⟩) N N), (5, .slice (some ⟨g2, 0, none⟩) N N), (6, .slice (some ⟨g3, 0, none⟩) N N)] 218 (G1 g3) a w) (show SG _ _ G a w from h0) ⟨?_, ?_, ?_, ?_, ?_, trivial⟩ ?_
  · intro a w hI
    have hI : SG _ _ G a w := hI
    have e1 := hI.g 1 rfl
    go_simp
    exact hI.put (d := 36) (by decide) (by simp) hI.wp
  · intro a w hI
    have hI : SG _ _ G a w := hI
    have e36 := hI.g 36 rfl
    have cc0 := c3 w hI.wp
    go_simp
    exact hI.put (d := 37) (by decide) (by simp) hI.wp
  · intro a w hI
    have hI : SG _ _ G a w := hI
    have e37 := hI.g 37 rfl
    go_simp
    exact hI.put (d := 38) (by decide) (by simp) hI.wp
  · intro a w hI
    have hI : SG _ _ G a w := hI
    have e38 := hI.g 38 rfl
    have hmk := run_make (P := Try.prog) w 22 32 i0 (.agg #[.int .u8 0, .int .u8 0]) under22 hi hz0 .i64 .i64 N N (by omega) (Int.le_refl _) (by rw [hz2]; omega) (by omega)
    rw [Int.toNat_natCast, hz1] at hmk
    replace hmk : (Instr.makeSlice 22 (.int .i64 N) (.int .i64 N)).run Try.prog w = .ok (.slice (some ⟨w.heap.size, 0, none⟩) N N) (w.alloc (.cells (madeCells #[.int .u8 0, .int .u8 0] (N * 2)) 32)) := hmk
    go_simp
    exact ⟨w.heap.size, hI.put (d := 39) (by decide) (by simp) (hst w hI.wp)⟩
  · rintro a w ⟨g3, hI⟩
    have e39 := hI.g 39 rfl
    go_simp
    exact ⟨g3, hI.put (d := 6) (by decide) (by simp) hI.wp⟩
  · rintro a w ⟨g3, hI⟩
    exact hQ g3 a w hI
set_option maxRecDepth 100000 in
set_option maxHeartbeats 4000000 in
theorem v8 (n : Nat) (W : World) (B r g2 g3 N : Nat) (Q : Exit → Act → World → Prop) (a : Act) (h0 : SR [(1, .pointer (some ⟨B, 0, none⟩)), (3, .slice (some ⟨r, 0, none⟩) N N), (5, .slice (some ⟨g2, 0, none⟩) N N), (6, .slice (some ⟨g3, 0, none⟩) N N)] 218 [] W a W)
    (hQ : ∀ a, SR [(1, .pointer (some ⟨B, 0, none⟩)), (3, .slice (some ⟨r, 0, none⟩) N N), (5, .slice (some ⟨g2, 0, none⟩) N N), (6, .slice (some ⟨g3, 0, none⟩) N N), (7, .int .i64 0)] 218 [] (W) a (W) → Q .normal a (W)) : (regOf 8 C9).wpIn Fence.wide n Try.prog Q a W := by
  simp only [regOf, C9, Try.f9, Option.getD, Nat.reduceBEq, Bool.false_eq_true, if_true, if_false]
  refine region_sq (fun k_ a w => match k_ with | 0 => SR [(1, .pointer (some ⟨B, 0, none⟩)), (3, .slice (some ⟨r, 0, none⟩) N N), (5, .slice (some ⟨g2, 0, none⟩) N N), (6, .slice (some ⟨g3, 0, none⟩) N N)] 218 [] (W) a w | _ => SR [(1, .pointer (some ⟨B, 0, none⟩)), (3, .slice (some ⟨r, 0, none⟩) N N), (5, .slice (some ⟨g2, 0, none⟩) N N), (6, .slice (some ⟨g3, 0, none⟩) N N), (7, .int .i64 0)] 218 [] (W) a w) (show SR _ _ _ _ a W from h0) ⟨?_, trivial⟩ ?_
  · intro a w hI
    have hI : SR _ _ _ _ a w := hI
    have hw : w = W := hI.wp
    subst hw
    go_simp
    exact hI.put (d := 7) (by decide) (by simp)
  · intro a w hI
    have hI : SR _ _ _ _ a w := hI
    have hw : w = W := hI.wp
    subst hw
    exact hQ a hI
set_option maxRecDepth 100000 in
set_option maxHeartbeats 4000000 in
theorem v9 (n : Nat) (W : World) (B r g2 g3 N i : Nat) (sp : Option Addr) (cap : Nat) (c3 : W.cell? ⟨B, 3, none⟩ = some (.slice sp N cap)) (Q : Exit → Act → World → Prop) (a : Act) (h0 : SR [(1, .pointer (some ⟨B, 0, none⟩)), (3, .slice (some ⟨r, 0, none⟩) N N), (5, .slice (some ⟨g2, 0, none⟩) N N), (6, .slice (some ⟨g3, 0, none⟩) N N), (7, .int .i64 i)] 218 [] W a W)
    (hQ : ∀ a, SR [(1, .pointer (some ⟨B, 0, none⟩)), (3, .slice (some ⟨r, 0, none⟩) N N), (5, .slice (some ⟨g2, 0, none⟩) N N), (6, .slice (some ⟨g3, 0, none⟩) N N), (7, .int .i64 i), (44, .bool (decide (i < N)))] 218 [] (W) a (W) → Q .normal a (W)) : (regOf 9 C9).wpIn Fence.wide n Try.prog Q a W := by
  simp only [regOf, C9, Try.f9, Option.getD, Nat.reduceBEq, Bool.false_eq_true, if_true, if_false]
  refine region_sq (fun k_ a w => match k_ with | 0 => SR [(1, .pointer (some ⟨B, 0, none⟩)), (3, .slice (some ⟨r, 0, none⟩) N N), (5, .slice (some ⟨g2, 0, none⟩) N N), (6, .slice (some ⟨g3, 0, none⟩) N N), (7, .int .i64 i)] 218 [] (W) a w | 1 => SR [(1, .pointer (some ⟨B, 0, none⟩)), (3, .slice (some ⟨r, 0, none⟩) N N), (5, .slice (some ⟨g2, 0, none⟩) N N), (6, .slice (some ⟨g3, 0, none⟩) N N), (7, .int .i64 i), (40, .int .i64 i)] 218 [] (W) a w | 2 => SR [(1, .pointer (some ⟨B, 0, none⟩)), (3, .slice (some ⟨r, 0, none⟩) N N), (5, .slice (some ⟨g2, 0, none⟩) N N), (6, .slice (some ⟨g3, 0, none⟩) N N), (7, .int .i64 i), (40, .int .i64 i), (41, .pointer (some ⟨B, 3, none⟩))] 218 [] (W) a w | 3 => SR [(1, .pointer (some ⟨B, 0, none⟩)), (3, .slice (some ⟨r, 0, none⟩) N N), (5, .slice (some ⟨g2, 0, none⟩) N N), (6, .slice (some ⟨g3, 0, none⟩) N N), (7, .int .i64 i), (40, .int .i64 i), (42, .slice sp N cap)] 218 [] (W) a w | 4 => SR [(1, .pointer (some ⟨B, 0, none⟩)), (3, .slice (some ⟨r, 0, none⟩) N N), (5, .slice (some ⟨g2, 0, none⟩) N N), (6, .slice (some ⟨g3, 0, none⟩) N N), (7, .int .i64 i), (40, .int .i64 i), (43, .int .i64 N)] 218 [] (W) a w | _ => SR [(1, .pointer (some ⟨B, 0, none⟩)), (3, .slice (some ⟨r, 0, none⟩) N N), (5, .slice (some ⟨g2, 0, none⟩) N N), (6, .slice (some ⟨g3, 0, none⟩) N N), (7, .int .i64 i), (44, .bool (decide (i < N)))] 218 [] (W) a w) (show SR _ _ _ _ a W from h0) ⟨?_, ?_, ?_, ?_, ?_, trivial⟩ ?_
  · intro a w hI
    have hI : SR _ _ _ _ a w := hI
    have e7 := hI.g 7 rfl
    have hw : w = W := hI.wp
    subst hw
    go_simp
    exact hI.put (d := 40) (by decide) (by simp)
  · intro a w hI
    have hI : SR _ _ _ _ a w := hI
    have e1 := hI.g 1 rfl
    have hw : w = W := hI.wp
    subst hw
    go_simp
    exact hI.put (d := 41) (by decide) (by simp)
  · intro a w hI
    have hI : SR _ _ _ _ a w := hI
    have e41 := hI.g 41 rfl
    have hw : w = W := hI.wp
    subst hw
    go_simp
    exact hI.put (d := 42) (by decide) (by simp)
  · intro a w hI
    have hI : SR _ _ _ _ a w := hI
    have e42 := hI.g 42 rfl
    have hw : w = W := hI.wp
    subst hw
    go_simp
    exact hI.put (d := 43) (by decide) (by simp)
  · intro a w hI
    have hI : SR _ _ _ _ a w := hI
    have e40 := hI.g 40 rfl
    have e43 := hI.g 43 rfl
    have hw : w = W := hI.wp
    subst hw
    go_simp
    exact hI.put (d := 44) (by decide) (by simp)
  · intro a w hI
    have hI : SR _ _ _ _ a w := hI
    have hw : w = W := hI.wp
    subst hw
    exact hQ a hI
set_option maxRecDepth 100000 in
set_option maxHeartbeats 4000000 in
theorem v10 (n : Nat) (W : World) (B r g2 g3 N i : Nat) (hi : i < 9000000000) (Q : Exit → Act → World → Prop) (a : Act) (h0 : SR [(1, .pointer (some ⟨B, 0, none⟩)), (3, .slice (some ⟨r, 0, none⟩) N N), (5, .slice (some ⟨g2, 0, none⟩) N N), (6, .slice (some ⟨g3, 0, none⟩) N N), (7, .int .i64 i)] 218 [] W a W)
    (hQ : ∀ a, SR [(1, .pointer (some ⟨B, 0, none⟩)), (3, .slice (some ⟨r, 0, none⟩) N N), (5, .slice (some ⟨g2, 0, none⟩) N N), (6, .slice (some ⟨g3, 0, none⟩) N N), (7, .int .i64 ((i : Int) + 1))] 218 [] (W) a (W) → Q .normal a (W)) : (regOf 10 C9).wpIn Fence.wide n Try.prog Q a W := by
  simp only [regOf, C9, Try.f9, Option.getD, Nat.reduceBEq, Bool.false_eq_true, if_true, if_false]
  refine region_sq (fun k_ a w => match k_ with | 0 => SR [(1, .pointer (some ⟨B, 0, none⟩)), (3, .slice (some ⟨r, 0, none⟩) N N), (5, .slice (some ⟨g2, 0, none⟩) N N), (6, .slice (some ⟨g3, 0, none⟩) N N), (7, .int .i64 i)] 218 [] (W) a w | 1 => SR [(1, .pointer (some ⟨B, 0, none⟩)), (3, .slice (some ⟨r, 0, none⟩) N N), (5, .slice (some ⟨g2, 0, none⟩) N N), (6, .slice (some ⟨g3, 0, none⟩) N N), (45, .int .i64 i)] 218 [] (W) a w | 2 => SR [(1, .pointer (some ⟨B, 0, none⟩)), (3, .slice (some ⟨r, 0, none⟩) N N), (5, .slice (some ⟨g2, 0, none⟩) N N), (6, .slice (some ⟨g3, 0, none⟩) N N), (46, .int .i64 ((i : Int) + 1))] 218 [] (W) a w | _ => SR [(1, .pointer (some ⟨B, 0, none⟩)), (3, .slice (some ⟨r, 0, none⟩) N N), (5, .slice (some ⟨g2, 0, none⟩) N N), (6, .slice (some ⟨g3, 0, none⟩) N N), (7, .int .i64 ((i : Int) + 1))] 218 [] (W) a w) (show SR _ _ _ _ a W from h0) ⟨?_, ?_, ?_, trivial⟩ ?_
  · intro a w hI
    have hI : SR _ _ _ _ a w := hI
    have e7 := hI.g 7 rfl
    have hw : w = W := hI.wp
    subst hw
    go_simp
    exact hI.put (d := 45) (by decide) (by simp)
  · intro a w hI
    have hI : SR _ _ _ _ a w := hI
    have e45 := hI.g 45 rfl
    have hw : w = W := hI.wp
    subst hw
    have hw1 : IntKind.i64.wrap ((i : Int) + 1) = (i : Int) + 1 := IntWalk.i64_in _ (by omega)
    go_simp
    exact hI.put (d := 46) (by decide) (by simp)
  · intro a w hI
    have hI : SR _ _ _ _ a w := hI
    have e46 := hI.g 46 rfl
    have hw : w = W := hI.wp
    subst hw
    go_simp
    exact hI.put (d := 7) (by decide) (by simp)
  · intro a w hI
    have hI : SR _ _ _ _ a w := hI
    have hw : w = W := hI.wp
    subst hw
    exact hQ a hI
set_option maxRecDepth 100000 in
set_option maxHeartbeats 4000000 in
theorem v11 (n : Nat) {G : World → Prop} (hS : Stable G) (B r g2 g3 N i : Nat) (X Z : Nat) (d1 : ¬ X = 0) (d2 : ¬ Z = 0) (x q z y : Nat) (hx : Int.tmod (i : Int) X = (x : Int)) (hq : IntKind.i64.wrap ((i : Int) / X) = (q : Int)) (hz : Int.tmod (q : Int) Z = (z : Int)) (hy : IntKind.i64.wrap ((q : Int) / Z) = (y : Int)) (c0 : ∀ w, G w → w.cell? ⟨B, 0, none⟩ = some (.int .i64 X)) (c2_ : ∀ w, G w → w.cell? ⟨B, 2, none⟩ = some (.int .i64 Z)) (Q : Exit → Act → World → Prop) (a : Act) (w : World) (h0 : SG [(1, .pointer (some ⟨B, 0, none⟩)), (3, .slice (some ⟨r, 0, none⟩) N N), (5, .slice (some ⟨g2, 0, none⟩) N N), (6, .slice (some ⟨g3, 0, none⟩) N N), (7, .int .i64 i)] 218 G a w)
    (hQ : ∀ a w, SG [(1, .pointer (some ⟨B, 0, none⟩)), (3, .slice (some ⟨r, 0, none⟩) N N), (5, .slice (some ⟨g2, 0, none⟩) N N), (6, .slice (some ⟨g3, 0, none⟩) N N), (7, .int .i64 i), (8, .int .i64 x), (9, .int .i64 z), (10, .int .i64 y)] 218 G a w → Q .normal a w) : (regOf 11 C9).wpIn Fence.wide n Try.prog Q a w := by
  have hmix : Try.prog.follows .mixedOrders = true := by kernel_rfl
  simp only [regOf, C9, Try.f9, Option.getD, Nat.reduceBEq, Bool.false_eq_true, if_true, if_false]
  refine region_inv (RI [(1, .pointer (some ⟨B, 0, none⟩)), (3, .slice (some ⟨r, 0, none⟩) N N), (5, .slice (some ⟨g2, 0, none⟩) N N), (6, .slice (some ⟨g3, 0, none⟩) N N), (7, .int .i64 i)]
    [(0, 47, .int .i64 i), (1, 48, .pointer (some ⟨B, 0, none⟩)), (2, 49, .int .i64 X), (3, 50, .int .i64 x), (4, 51, .int .i64 i), (5, 52, .pointer (some ⟨B, 0, none⟩)), (6, 53, .int .i64 X), (7, 54, .int .i64 q), (8, 55, .pointer (some ⟨B, 2, none⟩)), (9, 56, .int .i64 Z), (10, 57, .int .i64 z), (11, 58, .int .i64 i), (12, 59, .pointer (some ⟨B, 0, none⟩)), (13, 60, .int .i64 X), (14, 61, .int .i64 q), (15, 62, .pointer (some ⟨B, 2, none⟩)), (16, 63, .int .i64 Z), (17, 64, .int .i64 y), (18, 8, .int .i64 x), (19, 9, .int .i64 z), (20, 10, .int .i64 y)] 218 [] (fun _ w => G w)) hmix (by kernel_rfl) ⟨h0.size, h0.defers, h0.kn, by simp, hS _ _ h0.wp (Below.refl _ _).drew⟩ ⟨?_, ?_, ?_, ?_, ?_, ?_, ?_, ?_, ?_, ?_, ?_, ?_, ?_, ?_, ?_, ?_, ?_, ?_, ?_, ?_, ?_, trivial⟩ ?_
  · intro Xs a w hX hdep hC hI
    have e7 := hI.gi 7 rfl
    go_simp
    exact hI.put' (k := 0) (d := 47) (by decide) (by simp) (by simp) (by simp) hI.wp
  · intro Xs a w hX hdep hC hI
    have e1 := hI.gi 1 rfl
    go_simp
    exact hI.put' (k := 1) (d := 48) (by decide) (by simp) (by simp) (by simp) hI.wp
  · intro Xs a w hX hdep hC hI
    have x1 : Xs 1 = true := hdep ⟨1, .data⟩ (by simp) rfl
    have e48 := hI.gk 1 rfl x1
    have cc0 := c0 w hI.wp
    go_simp
    exact hI.put' (k := 2) (d := 49) (by decide) (by simp) (by simp) (by simp) hI.wp
  · intro Xs a w hX hdep hC hI
    have x0 : Xs 0 = true := hdep ⟨0, .data⟩ (by simp) rfl
    have e47 := hI.gk 0 rfl x0
    have x2 : Xs 2 = true := hdep ⟨2, .data⟩ (by simp) rfl
    have e49 := hI.gk 2 rfl x2
    go_simp
    exact hI.put' (k := 3) (d := 50) (by decide) (by simp) (by simp) (by simp) hI.wp
  · intro Xs a w hX hdep hC hI
    have e7 := hI.gi 7 rfl
    go_simp
    exact hI.put' (k := 4) (d := 51) (by decide) (by simp) (by simp) (by simp) hI.wp
  · intro Xs a w hX hdep hC hI
    have e1 := hI.gi 1 rfl
    go_simp
    exact hI.put' (k := 5) (d := 52) (by decide) (by simp) (by simp) (by simp) hI.wp
  · intro Xs a w hX hdep hC hI
    have x5 : Xs 5 = true := hdep ⟨5, .data⟩ (by simp) rfl
    have e52 := hI.gk 5 rfl x5
    have cc0 := c0 w hI.wp
    go_simp
    exact hI.put' (k := 6) (d := 53) (by decide) (by simp) (by simp) (by simp) hI.wp
  · intro Xs a w hX hdep hC hI
    have x4 : Xs 4 = true := hdep ⟨4, .data⟩ (by simp) rfl
    have e51 := hI.gk 4 rfl x4
    have x6 : Xs 6 = true := hdep ⟨6, .data⟩ (by simp) rfl
    have e53 := hI.gk 6 rfl x6
    go_simp
    exact hI.put' (k := 7) (d := 54) (by decide) (by simp) (by simp) (by simp) hI.wp
  · intro Xs a w hX hdep hC hI
    have e1 := hI.gi 1 rfl
    go_simp
    exact hI.put' (k := 8) (d := 55) (by decide) (by simp) (by simp) (by simp) hI.wp
  · intro Xs a w hX hdep hC hI
    have x8 : Xs 8 = true := hdep ⟨8, .data⟩ (by simp) rfl
    have e55 := hI.gk 8 rfl x8
    have cc0 := c2_ w hI.wp
    go_simp
    exact hI.put' (k := 9) (d := 56) (by decide) (by simp) (by simp) (by simp) hI.wp
  · intro Xs a w hX hdep hC hI
    have x7 : Xs 7 = true := hdep ⟨7, .data⟩ (by simp) rfl
    have e54 := hI.gk 7 rfl x7
    have x9 : Xs 9 = true := hdep ⟨9, .data⟩ (by simp) rfl
    have e56 := hI.gk 9 rfl x9
    go_simp
    exact hI.put' (k := 10) (d := 57) (by decide) (by simp) (by simp) (by simp) hI.wp
  · intro Xs a w hX hdep hC hI
    have e7 := hI.gi 7 rfl
    go_simp
    exact hI.put' (k := 11) (d := 58) (by decide) (by simp) (by simp) (by simp) hI.wp
  · intro Xs a w hX hdep hC hI
    have e1 := hI.gi 1 rfl
    go_simp
    exact hI.put' (k := 12) (d := 59) (by decide) (by simp) (by simp) (by simp) hI.wp
  · intro Xs a w hX hdep hC hI
    have x12 : Xs 12 = true := hdep ⟨12, .data⟩ (by simp) rfl
    have e59 := hI.gk 12 rfl x12
    have cc0 := c0 w hI.wp
    go_simp
    exact hI.put' (k := 13) (d := 60) (by decide) (by simp) (by simp) (by simp) hI.wp
  · intro Xs a w hX hdep hC hI
    have x11 : Xs 11 = true := hdep ⟨11, .data⟩ (by simp) rfl
    have e58 := hI.gk 11 rfl x11
    have x13 : Xs 13 = true := hdep ⟨13, .data⟩ (by simp) rfl
    have e60 := hI.gk 13 rfl x13
    go_simp
    exact hI.put' (k := 14) (d := 61) (by decide) (by simp) (by simp) (by simp) hI.wp
  · intro Xs a w hX hdep hC hI
    have e1 := hI.gi 1 rfl
    go_simp
    exact hI.put' (k := 15) (d := 62) (by decide) (by simp) (by simp) (by simp) hI.wp
  · intro Xs a w hX hdep hC hI
    have x15 : Xs 15 = true := hdep ⟨15, .data⟩ (by simp) rfl
    have e62 := hI.gk 15 rfl x15
    have cc0 := c2_ w hI.wp
    go_simp
    exact hI.put' (k := 16) (d := 63) (by decide) (by simp) (by simp) (by simp) hI.wp
  · intro Xs a w hX hdep hC hI
    have x14 : Xs 14 = true := hdep ⟨14, .data⟩ (by simp) rfl
    have e61 := hI.gk 14 rfl x14
    have x16 : Xs 16 = true := hdep ⟨16, .data⟩ (by simp) rfl
    have e63 := hI.gk 16 rfl x16
    go_simp
    exact hI.put' (k := 17) (d := 64) (by decide) (by simp) (by simp) (by simp) hI.wp
  · intro Xs a w hX hdep hC hI
    have x3 : Xs 3 = true := hdep ⟨3, .data⟩ (by simp) rfl
    have e50 := hI.gk 3 rfl x3
    go_simp
    exact hI.put' (k := 18) (d := 8) (by decide) (by simp) (by simp) (by simp) hI.wp
  · intro Xs a w hX hdep hC hI
    have x10 : Xs 10 = true := hdep ⟨10, .data⟩ (by simp) rfl
    have e57 := hI.gk 10 rfl x10
    go_simp
    exact hI.put' (k := 19) (d := 9) (by decide) (by simp) (by simp) (by simp) hI.wp
  · intro Xs a w hX hdep hC hI
    have x17 : Xs 17 = true := hdep ⟨17, .data⟩ (by simp) rfl
    have e64 := hI.gk 17 rfl x17
    go_simp
    exact hI.put' (k := 20) (d := 10) (by decide) (by simp) (by simp) (by simp) hI.wp
  · intro Xs a w hX hI
    refine hQ a w ⟨hI.size, hI.defers, ?_, hI.wp⟩
    simp only [List.mem_cons, List.not_mem_nil, or_false, forall_eq_or_imp, forall_eq]
    exact ⟨hI.gi 1 rfl, hI.gi 3 rfl, hI.gi 5 rfl, hI.gi 6 rfl, hI.gi 7 rfl, hI.gk 18 rfl (hX 18 (by simp)), hI.gk 19 rfl (hX 19 (by simp)), hI.gk 20 rfl (hX 20 (by simp))⟩
set_option maxRecDepth 100000 in
set_option maxHeartbeats 4000000 in
theorem v12 (n : Nat) {G G1 : World → Prop} (hS : Stable G) (B r g2 g3 N i : Nat) (X Z x z y : Nat) (p1 p2 p3 p4 p5 s : Nat) (h1 : IntKind.i64.wrap ((y : Int) * Z) = (p1 : Int)) (h2 : IntKind.i64.wrap ((p1 : Int) + z) = (p2 : Int)) (h3 : IntKind.i64.wrap ((p2 : Int) * X) = (p3 : Int)) (h4 : IntKind.i64.wrap ((p3 : Int) + X) = (p4 : Int)) (h5 : IntKind.i64.wrap ((p4 : Int) - 1) = (p5 : Int)) (h6 : IntKind.i64.wrap ((p5 : Int) - x) = (s : Int)) (hs : s < N) (g off cap k v : Nat) (hi : i < N) (c2_ : ∀ w, G w → w.cell? ⟨B, 2, none⟩ = some (.int .i64 Z)) (c0 : ∀ w, G w → w.cell? ⟨B, 0, none⟩ = some (.int .i64 X)) (c3 : ∀ w, G w → w.cell? ⟨B, 3, none⟩ = some (.slice (some ⟨g, off, none⟩) N cap)) (ca0 : ∀ w, G w → w.cell? ⟨g, off + i * 2, none⟩ = some (.int .u8 k)) (ca1 : ∀ w, G w → w.cell? ⟨g, off + i * 2 + 1, none⟩ = some (.int .u8 v)) (cw : ∀ w, G w → (∃ v, w.cell? ⟨g2, s * 2, none⟩ = some v) ∧ ∃ v, w.cell? ⟨g2, s * 2 + 1, none⟩ = some v) (fw : ∀ w, G w → w.frozen? ⟨g2, s * 2, none⟩ = false ∧ w.frozen? ⟨g2, s * 2 + 1, none⟩ = false) (hst : ∀ w, G w → G1 ((w.setCell ⟨g2, s * 2, none⟩ (.int .u8 k)).setCell ⟨g2, s * 2 + 1, none⟩ (.int .u8 v))) (Q : Exit → Act → World → Prop) (a : Act) (w : World) (h0 : SG [(1, .pointer (some ⟨B, 0, none⟩)), (3, .slice (some ⟨r, 0, none⟩) N N), (5, .slice (some ⟨g2, 0, none⟩) N N), (6, .slice (some ⟨g3, 0, none⟩) N N), (7, .int .i64 i), (8, .int .i64 x), (9, .int .i64 z), (10, .int .i64 y)] 218 G a w)
    (hQ : ∀ a w, SG [(1, .pointer (some ⟨B, 0, none⟩)), (3, .slice (some ⟨r, 0, none⟩) N N), (5, .slice (some ⟨g2, 0, none⟩) N N), (6, .slice (some ⟨g3, 0, none⟩) N N), (7, .int .i64 i), (8, .int .i64 x), (9, .int .i64 z), (10, .int .i64 y)] 218 G1 a w → Q .normal a w) : (regOf 12 C9).wpIn Fence.wide n Try.prog Q a w := by
  have hmix : Try.prog.follows .mixedOrders = true := by kernel_rfl
  simp only [regOf, C9, Try.f9, Option.getD, Nat.reduceBEq, Bool.false_eq_true, if_true, if_false]
  refine region_inv (RI [(1, .pointer (some ⟨B, 0, none⟩)), (3, .slice (some ⟨r, 0, none⟩) N N), (5, .slice (some ⟨g2, 0, none⟩) N N), (6, .slice (some ⟨g3, 0, none⟩) N N), (7, .int .i64 i), (8, .int .i64 x), (9, .int .i64 z), (10, .int .i64 y)]
    [(0, 65, .slice (some ⟨g2, 0, none⟩) N N), (1, 66, .int .i64 y), (2, 67, .pointer (some ⟨B, 2, none⟩)), (3, 68, .int .i64 Z), (4, 69, .int .i64 p1), (5, 70, .int .i64 z), (6, 71, .int .i64 p2), (7, 72, .pointer (some ⟨B, 0, none⟩)), (8, 73, .int .i64 X), (9, 74, .int .i64 p3), (10, 75, .pointer (some ⟨B, 0, none⟩)), (11, 76, .int .i64 X), (12, 77, .int .i64 p4), (13, 78, .int .i64 p5), (14, 79, .int .i64 x), (15, 80, .int .i64 s), (16, 81, .pointer (some ⟨B, 3, none⟩)), (17, 82, .slice (some ⟨g, off, none⟩) N cap), (18, 83, .int .i64 i), (19, 84, .pointer (some ⟨g, off + i * 2, none⟩)), (20, 85, .agg #[.int .u8 k, .int .u8 v]), (21, 86, .pointer (some ⟨g2, s * 2, none⟩))] 218 [] (fun Xs w => (Xs 22 = false → G w) ∧ (Xs 22 = true → G1 w))) hmix (by kernel_rfl) ⟨h0.size, h0.defers, h0.kn, by simp, fun _ => hS _ _ h0.wp (Below.refl _ _).drew, fun h => by cases h⟩ ⟨?_, ?_, ?_, ?_, ?_, ?_, ?_, ?_, ?_, ?_, ?_, ?_, ?_, ?_, ?_, ?_, ?_, ?_, ?_, ?_, ?_, ?_, ?_, trivial⟩ ?_
  · intro Xs a w hX hdep hC hI
    have e5 := hI.gi 5 rfl
    have ns : Xs 22 = false := by
        cases y22 : Xs 22 with
        | false => rfl
        | true =>
          have y0 := hC 22 _ rfl y22 ⟨0, .phase⟩ (by simp) rfl
          rw [hX] at y0; cases y0
    have hg := hI.wp.1 ns
    have hw2 : ∀ {d}, d ≠ 22 → (addX Xs d 22 = false → G w) ∧ (addX Xs d 22 = true → G1 w) := fun hd => ⟨fun _ => hg, fun h => by simp [addX, ns, hd.symm] at h⟩
    clear ns
    go_simp
    exact hI.put' (k := 0) (d := 65) (by decide) (by simp) (by simp) (by simp) (hw2 (by decide))
  · intro Xs a w hX hdep hC hI
    have e10 := hI.gi 10 rfl
    have ns : Xs 22 = false := by
        cases y22 : Xs 22 with
        | false => rfl
        | true =>
          have y1 := hC 22 _ rfl y22 ⟨1, .phase⟩ (by simp) rfl
          rw [hX] at y1; cases y1
    have hg := hI.wp.1 ns
    have hw2 : ∀ {d}, d ≠ 22 → (addX Xs d 22 = false → G w) ∧ (addX Xs d 22 = true → G1 w) := fun hd => ⟨fun _ => hg, fun h => by simp [addX, ns, hd.symm] at h⟩
    clear ns
    go_simp
    exact hI.put' (k := 1) (d := 66) (by decide) (by simp) (by simp) (by simp) (hw2 (by decide))
  · intro Xs a w hX hdep hC hI
    have e1 := hI.gi 1 rfl
    have ns : Xs 22 = false := by
        cases y22 : Xs 22 with
        | false => rfl
        | true =>
          have y2 := hC 22 _ rfl y22 ⟨2, .phase⟩ (by simp) rfl
          rw [hX] at y2; cases y2
    have hg := hI.wp.1 ns
    have hw2 : ∀ {d}, d ≠ 22 → (addX Xs d 22 = false → G w) ∧ (addX Xs d 22 = true → G1 w) := fun hd => ⟨fun _ => hg, fun h => by simp [addX, ns, hd.symm] at h⟩
    clear ns
    go_simp
    exact hI.put' (k := 2) (d := 67) (by decide) (by simp) (by simp) (by simp) (hw2 (by decide))
  · intro Xs a w hX hdep hC hI
    have x2 : Xs 2 = true := hdep ⟨2, .data⟩ (by simp) rfl
    have e67 := hI.gk 2 rfl x2
    have ns : Xs 22 = false := by
        cases y22 : Xs 22 with
        | false => rfl
        | true =>
          have y3 := hC 22 _ rfl y22 ⟨3, .phase⟩ (by simp) rfl
          rw [hX] at y3; cases y3
    have hg := hI.wp.1 ns
    have cc0 := c2_ w hg
    have hw2 : ∀ {d}, d ≠ 22 → (addX Xs d 22 = false → G w) ∧ (addX Xs d 22 = true → G1 w) := fun hd => ⟨fun _ => hg, fun h => by simp [addX, ns, hd.symm] at h⟩
    clear ns
    go_simp
    exact hI.put' (k := 3) (d := 68) (by decide) (by simp) (by simp) (by simp) (hw2 (by decide))
  · intro Xs a w hX hdep hC hI
    have x1 : Xs 1 = true := hdep ⟨1, .data⟩ (by simp) rfl
    have e66 := hI.gk 1 rfl x1
    have x3 : Xs 3 = true := hdep ⟨3, .data⟩ (by simp) rfl
    have e68 := hI.gk 3 rfl x3
    have ns : Xs 22 = false := by
        cases y22 : Xs 22 with
        | false => rfl
        | true =>
          have y4 := hC 22 _ rfl y22 ⟨4, .phase⟩ (by simp) rfl
          rw [hX] at y4; cases y4
    have hg := hI.wp.1 ns
    have hw2 : ∀ {d}, d ≠ 22 → (addX Xs d 22 = false → G w) ∧ (addX Xs d 22 = true → G1 w) := fun hd => ⟨fun _ => hg, fun h => by simp [addX, ns, hd.symm] at h⟩
    clear ns
    go_simp
    exact hI.put' (k := 4) (d := 69) (by decide) (by simp) (by simp) (by simp) (hw2 (by decide))
  · intro Xs a w hX hdep hC hI
    have e9 := hI.gi 9 rfl
    have ns : Xs 22 = false := by
        cases y22 : Xs 22 with
        | false => rfl
        | true =>
          have y5 := hC 22 _ rfl y22 ⟨5, .phase⟩ (by simp) rfl
          rw [hX] at y5; cases y5
    have hg := hI.wp.1 ns
    have hw2 : ∀ {d}, d ≠ 22 → (addX Xs d 22 = false → G w) ∧ (addX Xs d 22 = true → G1 w) := fun hd => ⟨fun _ => hg, fun h => by simp [addX, ns, hd.symm] at h⟩
    clear ns
    go_simp
    exact hI.put' (k := 5) (d := 70) (by decide) (by simp) (by simp) (by simp) (hw2 (by decide))
  · intro Xs a w hX hdep hC hI
    have x4 : Xs 4 = true := hdep ⟨4, .data⟩ (by simp) rfl
    have e69 := hI.gk 4 rfl x4
    have x5 : Xs 5 = true := hdep ⟨5, .data⟩ (by simp) rfl
    have e70 := hI.gk 5 rfl x5
    have ns : Xs 22 = false := by
        cases y22 : Xs 22 with
        | false => rfl
        | true =>
          have y6 := hC 22 _ rfl y22 ⟨6, .phase⟩ (by simp) rfl
          rw [hX] at y6; cases y6
    have hg := hI.wp.1 ns
    have hw2 : ∀ {d}, d ≠ 22 → (addX Xs d 22 = false → G w) ∧ (addX Xs d 22 = true → G1 w) := fun hd => ⟨fun _ => hg, fun h => by simp [addX, ns, hd.symm] at h⟩
    clear ns
    go_simp
    exact hI.put' (k := 6) (d := 71) (by decide) (by simp) (by simp) (by simp) (hw2 (by decide))
  · intro Xs a w hX hdep hC hI
    have e1 := hI.gi 1 rfl
    have ns : Xs 22 = false := by
        cases y22 : Xs 22 with
        | false => rfl
        | true =>
          have y7 := hC 22 _ rfl y22 ⟨7, .phase⟩ (by simp) rfl
          rw [hX] at y7; cases y7
    have hg := hI.wp.1 ns
    have hw2 : ∀ {d}, d ≠ 22 → (addX Xs d 22 = false → G w) ∧ (addX Xs d 22 = true → G1 w) := fun hd => ⟨fun _ => hg, fun h => by simp [addX, ns, hd.symm] at h⟩
    clear ns
    go_simp
    exact hI.put' (k := 7) (d := 72) (by decide) (by simp) (by simp) (by simp) (hw2 (by decide))
  · intro Xs a w hX hdep hC hI
    have x7 : Xs 7 = true := hdep ⟨7, .data⟩ (by simp) rfl
    have e72 := hI.gk 7 rfl x7
    have ns : Xs 22 = false := by
        cases y22 : Xs 22 with
        | false => rfl
        | true =>
          have y8 := hC 22 _ rfl y22 ⟨8, .phase⟩ (by simp) rfl
          rw [hX] at y8; cases y8
    have hg := hI.wp.1 ns
    have cc0 := c0 w hg
    have hw2 : ∀ {d}, d ≠ 22 → (addX Xs d 22 = false → G w) ∧ (addX Xs d 22 = true → G1 w) := fun hd => ⟨fun _ => hg, fun h => by simp [addX, ns, hd.symm] at h⟩
    clear ns
    go_simp
    exact hI.put' (k := 8) (d := 73) (by decide) (by simp) (by simp) (by simp) (hw2 (by decide))
  · intro Xs a w hX hdep hC hI
    have x6 : Xs 6 = true := hdep ⟨6, .data⟩ (by simp) rfl
    have e71 := hI.gk 6 rfl x6
    have x8 : Xs 8 = true := hdep ⟨8, .data⟩ (by simp) rfl
    have e73 := hI.gk 8 rfl x8
    have ns : Xs 22 = false := by
        cases y22 : Xs 22 with
        | false => rfl
        | true =>
          have y9 := hC 22 _ rfl y22 ⟨9, .phase⟩ (by simp) rfl
          rw [hX] at y9; cases y9
    have hg := hI.wp.1 ns
    have hw2 : ∀ {d}, d ≠ 22 → (addX Xs d 22 = false → G w) ∧ (addX Xs d 22 = true → G1 w) := fun hd => ⟨fun _ => hg, fun h => by simp [addX, ns, hd.symm] at h⟩
    clear ns
    go_simp
    exact hI.put' (k := 9) (d := 74) (by decide) (by simp) (by simp) (by simp) (hw2 (by decide))
  · intro Xs a w hX hdep hC hI
    have e1 := hI.gi 1 rfl
    have ns : Xs 22 = false := by
        cases y22 : Xs 22 with
        | false => rfl
        | true =>
          have y10 := hC 22 _ rfl y22 ⟨10, .phase⟩ (by simp) rfl
          rw [hX] at y10; cases y10
    have hg := hI.wp.1 ns
    have hw2 : ∀ {d}, d ≠ 22 → (addX Xs d 22 = false → G w) ∧ (addX Xs d 22 = true → G1 w) := fun hd => ⟨fun _ => hg, fun h => by simp [addX, ns, hd.symm] at h⟩
    clear ns
    go_simp
    exact hI.put' (k := 10) (d := 75) (by decide) (by simp) (by simp) (by simp) (hw2 (by decide))
  · intro Xs a w hX hdep hC hI
    have x10 : Xs 10 = true := hdep ⟨10, .data⟩ (by simp) rfl
    have e75 := hI.gk 10 rfl x10
    have ns : Xs 22 = false := by
        cases y22 : Xs 22 with
        | false => rfl
        | true =>
          have y11 := hC 22 _ rfl y22 ⟨11, .phase⟩ (by simp) rfl
          rw [hX] at y11; cases y11
    have hg := hI.wp.1 ns
    have cc0 := c0 w hg
    have hw2 : ∀ {d}, d ≠ 22 → (addX Xs d 22 = false → G w) ∧ (addX Xs d 22 = true → G1 w) := fun hd => ⟨fun _ => hg, fun h => by simp [addX, ns, hd.symm] at h⟩
    clear ns
    go_simp
    exact hI.put' (k := 11) (d := 76) (by decide) (by simp) (by simp) (by simp) (hw2 (by decide))
  · intro Xs a w hX hdep hC hI
    have x9 : Xs 9 = true := hdep ⟨9, .data⟩ (by simp) rfl
    have e74 := hI.gk 9 rfl x9
    have x11 : Xs 11 = true := hdep ⟨11, .data⟩ (by simp) rfl
    have e76 := hI.gk 11 rfl x11
    have ns : Xs 22 = false := by
        cases y22 : Xs 22 with
        | false => rfl
        | true =>
          have y12 := hC 22 _ rfl y22 ⟨12, .phase⟩ (by simp) rfl
          rw [hX] at y12; cases y12
    have hg := hI.wp.1 ns
    have hw2 : ∀ {d}, d ≠ 22 → (addX Xs d 22 = false → G w) ∧ (addX Xs d 22 = true → G1 w) := fun hd => ⟨fun _ => hg, fun h => by simp [addX, ns, hd.symm] at h⟩
    clear ns
    go_simp
    exact hI.put' (k := 12) (d := 77) (by decide) (by simp) (by simp) (by simp) (hw2 (by decide))
  · intro Xs a w hX hdep hC hI
    have x12 : Xs 12 = true := hdep ⟨12, .data⟩ (by simp) rfl
    have e77 := hI.gk 12 rfl x12
    have ns : Xs 22 = false := by
        cases y22 : Xs 22 with
        | false => rfl
        | true =>
          have y13 := hC 22 _ rfl y22 ⟨13, .phase⟩ (by simp) rfl
          rw [hX] at y13; cases y13
    have hg := hI.wp.1 ns
    have hw2 : ∀ {d}, d ≠ 22 → (addX Xs d 22 = false → G w) ∧ (addX Xs d 22 = true → G1 w) := fun hd => ⟨fun _ => hg, fun h => by simp [addX, ns, hd.symm] at h⟩
    clear ns
    go_simp
    exact hI.put' (k := 13) (d := 78) (by decide) (by simp) (by simp) (by simp) (hw2 (by decide))
  · intro Xs a w hX hdep hC hI
    have e8 := hI.gi 8 rfl
    have ns : Xs 22 = false := by
        cases y22 : Xs 22 with
        | false => rfl
        | true =>
          have y14 := hC 22 _ rfl y22 ⟨14, .phase⟩ (by simp) rfl
          rw [hX] at y14; cases y14
    have hg := hI.wp.1 ns
    have hw2 : ∀ {d}, d ≠ 22 → (addX Xs d 22 = false → G w) ∧ (addX Xs d 22 = true → G1 w) := fun hd => ⟨fun _ => hg, fun h => by simp [addX, ns, hd.symm] at h⟩
    clear ns
    go_simp
    exact hI.put' (k := 14) (d := 79) (by decide) (by simp) (by simp) (by simp) (hw2 (by decide))
  · intro Xs a w hX hdep hC hI
    have x13 : Xs 13 = true := hdep ⟨13, .data⟩ (by simp) rfl
    have e78 := hI.gk 13 rfl x13
    have x14 : Xs 14 = true := hdep ⟨14, .data⟩ (by simp) rfl
    have e79 := hI.gk 14 rfl x14
    have ns : Xs 22 = false := by
        cases y22 : Xs 22 with
        | false => rfl
        | true =>
          have y15 := hC 22 _ rfl y22 ⟨15, .phase⟩ (by simp) rfl
          rw [hX] at y15; cases y15
    have hg := hI.wp.1 ns
    have hw2 : ∀ {d}, d ≠ 22 → (addX Xs d 22 = false → G w) ∧ (addX Xs d 22 = true → G1 w) := fun hd => ⟨fun _ => hg, fun h => by simp [addX, ns, hd.symm] at h⟩
    clear ns
    go_simp
    exact hI.put' (k := 15) (d := 80) (by decide) (by simp) (by simp) (by simp) (hw2 (by decide))
  · intro Xs a w hX hdep hC hI
    have e1 := hI.gi 1 rfl
    have ns : Xs 22 = false := by
        cases y22 : Xs 22 with
        | false => rfl
        | true =>
          have y16 := hC 22 _ rfl y22 ⟨16, .phase⟩ (by simp) rfl
          rw [hX] at y16; cases y16
    have hg := hI.wp.1 ns
    have hw2 : ∀ {d}, d ≠ 22 → (addX Xs d 22 = false → G w) ∧ (addX Xs d 22 = true → G1 w) := fun hd => ⟨fun _ => hg, fun h => by simp [addX, ns, hd.symm] at h⟩
    clear ns
    go_simp
    exact hI.put' (k := 16) (d := 81) (by decide) (by simp) (by simp) (by simp) (hw2 (by decide))
  · intro Xs a w hX hdep hC hI
    have x16 : Xs 16 = true := hdep ⟨16, .data⟩ (by simp) rfl
    have e81 := hI.gk 16 rfl x16
    have ns : Xs 22 = false := by
        cases y22 : Xs 22 with
        | false => rfl
        | true =>
          have y17 := hC 22 _ rfl y22 ⟨17, .phase⟩ (by simp) rfl
          rw [hX] at y17; cases y17
    have hg := hI.wp.1 ns
    have cc0 := c3 w hg
    have hw2 : ∀ {d}, d ≠ 22 → (addX Xs d 22 = false → G w) ∧ (addX Xs d 22 = true → G1 w) := fun hd => ⟨fun _ => hg, fun h => by simp [addX, ns, hd.symm] at h⟩
    clear ns
    go_simp
    exact hI.put' (k := 17) (d := 82) (by decide) (by simp) (by simp) (by simp) (hw2 (by decide))
  · intro Xs a w hX hdep hC hI
    have e7 := hI.gi 7 rfl
    have ns : Xs 22 = false := by
        cases y22 : Xs 22 with
        | false => rfl
        | true =>
          have y18 := hC 22 _ rfl y22 ⟨18, .phase⟩ (by simp) rfl
          rw [hX] at y18; cases y18
    have hg := hI.wp.1 ns
    have hw2 : ∀ {d}, d ≠ 22 → (addX Xs d 22 = false → G w) ∧ (addX Xs d 22 = true → G1 w) := fun hd => ⟨fun _ => hg, fun h => by simp [addX, ns, hd.symm] at h⟩
    clear ns
    go_simp
    exact hI.put' (k := 18) (d := 83) (by decide) (by simp) (by simp) (by simp) (hw2 (by decide))
  · intro Xs a w hX hdep hC hI
    have x17 : Xs 17 = true := hdep ⟨17, .data⟩ (by simp) rfl
    have e82 := hI.gk 17 rfl x17
    have x18 : Xs 18 = true := hdep ⟨18, .data⟩ (by simp) rfl
    have e83 := hI.gk 18 rfl x18
    have ns : Xs 22 = false := by
        cases y22 : Xs 22 with
        | false => rfl
        | true =>
          have y19 := hC 22 _ rfl y22 ⟨19, .phase⟩ (by simp) rfl
          rw [hX] at y19; cases y19
    have hg := hI.wp.1 ns
    have q1_19 : (0 : Int) ≤ i := by omega
    have q2_19 : (i : Int) < N := by omega
    have hw2 : ∀ {d}, d ≠ 22 → (addX Xs d 22 = false → G w) ∧ (addX Xs d 22 = true → G1 w) := fun hd => ⟨fun _ => hg, fun h => by simp [addX, ns, hd.symm] at h⟩
    clear ns
    go_simp
    exact hI.put' (k := 19) (d := 84) (by decide) (by simp) (by simp) (by simp) (hw2 (by decide))
  · intro Xs a w hX hdep hC hI
    have x19 : Xs 19 = true := hdep ⟨19, .data⟩ (by simp) rfl
    have e84 := hI.gk 19 rfl x19
    have ns : Xs 22 = false := by
        cases y22 : Xs 22 with
        | false => rfl
        | true =>
          have y20 := hC 22 _ rfl y22 ⟨20, .data⟩ (by simp) rfl
          rw [hX] at y20; cases y20
    have hg := hI.wp.1 ns
    have cc0 := ca0 w hg
    have cc1 := ca1 w hg
    have hw2 : ∀ {d}, d ≠ 22 → (addX Xs d 22 = false → G w) ∧ (addX Xs d 22 = true → G1 w) := fun hd => ⟨fun _ => hg, fun h => by simp [addX, ns, hd.symm] at h⟩
    clear ns
    go_simp
    exact hI.put' (k := 20) (d := 85) (by decide) (by simp) (by simp) (by simp) (hw2 (by decide))
  · intro Xs a w hX hdep hC hI
    have x0 : Xs 0 = true := hdep ⟨0, .data⟩ (by simp) rfl
    have e65 := hI.gk 0 rfl x0
    have x15 : Xs 15 = true := hdep ⟨15, .data⟩ (by simp) rfl
    have e80 := hI.gk 15 rfl x15
    have ns : Xs 22 = false := by
        cases y22 : Xs 22 with
        | false => rfl
        | true =>
          have y21 := hC 22 _ rfl y22 ⟨21, .data⟩ (by simp) rfl
          rw [hX] at y21; cases y21
    have hg := hI.wp.1 ns
    have q1_21 : (0 : Int) ≤ s := by omega
    have q2_21 : (s : Int) < N := by omega
    have hw2 : ∀ {d}, d ≠ 22 → (addX Xs d 22 = false → G w) ∧ (addX Xs d 22 = true → G1 w) := fun hd => ⟨fun _ => hg, fun h => by simp [addX, ns, hd.symm] at h⟩
    clear ns
    go_simp
    exact hI.put' (k := 21) (d := 86) (by decide) (by simp) (by simp) (by simp) (hw2 (by decide))
  · intro Xs a w hX hdep hC hI
    have x21 : Xs 21 = true := hdep ⟨21, .data⟩ (by simp) rfl
    have e86 := hI.gk 21 rfl x21
    have x20 : Xs 20 = true := hdep ⟨20, .data⟩ (by simp) rfl
    have e85 := hI.gk 20 rfl x20
    have hg := hI.wp.1 hX
    obtain ⟨⟨v0, cw0⟩, v1, cw1⟩ := cw w hg
    obtain ⟨fw0, fw1⟩ := fw w hg
    go_simp
    exact hI.put_none' (k := 22) (by simp) ⟨fun h => by simp [addX] at h, fun _ => hst w hg⟩
  · intro Xs a w hX hI
    refine hQ a w ⟨hI.size, hI.defers, ?_, hI.wp.2 (hX 22 (by simp))⟩
    simp only [List.mem_cons, List.not_mem_nil, or_false, forall_eq_or_imp, forall_eq]
    exact ⟨hI.gi 1 rfl, hI.gi 3 rfl, hI.gi 5 rfl, hI.gi 6 rfl, hI.gi 7 rfl, hI.gi 8 rfl, hI.gi 9 rfl, hI.gi 10 rfl⟩
set_option maxRecDepth 100000 in
set_option maxHeartbeats 4000000 in
theorem v13 (n : Nat) {G G1 : World → Prop} (hS : Stable G) (B r g2 g3 N i : Nat) (X Z x z y : Nat) (p1 p2 p3 s : Nat) (h1 : IntKind.i64.wrap ((y : Int) * X) = (p1 : Int)) (h2 : IntKind.i64.wrap ((p1 : Int) + x) = (p2 : Int)) (h3 : IntKind.i64.wrap ((p2 : Int) * Z) = (p3 : Int)) (h4 : IntKind.i64.wrap ((p3 : Int) + z) = (s : Int)) (hs : s < N) (g off cap k v : Nat) (hi : i < N) (c0 : ∀ w, G w → w.cell? ⟨B, 0, none⟩ = some (.int .i64 X)) (c2_ : ∀ w, G w → w.cell? ⟨B, 2, none⟩ = some (.int .i64 Z)) (c3 : ∀ w, G w → w.cell? ⟨B, 3, none⟩ = some (.slice (some ⟨g, off, none⟩) N cap)) (ca0 : ∀ w, G w → w.cell? ⟨g, off + i * 2, none⟩ = some (.int .u8 k)) (ca1 : ∀ w, G w → w.cell? ⟨g, off + i * 2 + 1, none⟩ = some (.int .u8 v)) (cw : ∀ w, G w → (∃ v, w.cell? ⟨g3, s * 2, none⟩ = some v) ∧ ∃ v, w.cell? ⟨g3, s * 2 + 1, none⟩ = some v) (fw : ∀ w, G w → w.frozen? ⟨g3, s * 2, none⟩ = false ∧ w.frozen? ⟨g3, s * 2 + 1, none⟩ = false) (hst : ∀ w, G w → G1 ((w.setCell ⟨g3, s * 2, none⟩ (.int .u8 k)).setCell ⟨g3, s * 2 + 1, none⟩ (.int .u8 v))) (Q : Exit → Act → World → Prop) (a : Act) (w : World) (h0 : SG [(1, .pointer (some ⟨B, 0, none⟩)), (3, .slice (some ⟨r, 0, none⟩) N N), (5, .slice (some ⟨g2, 0, none⟩) N N), (6, .slice (some ⟨g3, 0, none⟩) N N), (7, .int .i64 i), (8, .int .i64 x), (9, .int .i64 z), (10, .int .i64 y)] 218 G a w)
    (hQ : ∀ a w, SG [(1, .pointer (some ⟨B, 0, none⟩)), (3, .slice (some ⟨r, 0, none⟩) N N), (5, .slice (some ⟨g2, 0, none⟩) N N), (6, .slice (some ⟨g3, 0, none⟩) N N), (7, .int .i64 i)] 218 G1 a w → Q .normal a w) : (regOf 13 C9).wpIn Fence.wide n Try.prog Q a w := by
  have hmix : Try.prog.follows .mixedOrders = true := by kernel_rfl
  simp only [regOf, C9, Try.f9, Option.getD, Nat.reduceBEq, Bool.false_eq_true, if_true, if_false]
  refine region_inv (RI [(1, .pointer (some ⟨B, 0, none⟩)), (3, .slice (some ⟨r, 0, none⟩) N N), (5, .slice (some ⟨g2, 0, none⟩) N N), (6, .slice (some ⟨g3, 0, none⟩) N N), (7, .int .i64 i), (8, .int .i64 x), (9, .int .i64 z), (10, .int .i64 y)]
    [(0, 87, .slice (some ⟨g3, 0, none⟩) N N), (1, 88, .int .i64 y), (2, 89, .pointer (some ⟨B, 0, none⟩)), (3, 90, .int .i64 X), (4, 91, .int .i64 p1), (5, 92, .int .i64 x), (6, 93, .int .i64 p2), (7, 94, .pointer (some ⟨B, 2, none⟩)), (8, 95, .int .i64 Z), (9, 96, .int .i64 p3), (10, 97, .int .i64 z), (11, 98, .int .i64 s), (12, 99, .pointer (some ⟨B, 3, none⟩)), (13, 100, .slice (some ⟨g, off, none⟩) N cap), (14, 101, .int .i64 i), (15, 102, .pointer (some ⟨g, off + i * 2, none⟩)), (16, 103, .agg #[.int .u8 k, .int .u8 v]), (17, 104, .pointer (some ⟨g3, s * 2, none⟩))] 218 [] (fun Xs w => (Xs 18 = false → G w) ∧ (Xs 18 = true → G1 w))) hmix (by kernel_rfl) ⟨h0.size, h0.defers, h0.kn, by simp, fun _ => hS _ _ h0.wp (Below.refl _ _).drew, fun h => by cases h⟩ ⟨?_, ?_, ?_, ?_, ?_, ?_, ?_, ?_, ?_, ?_, ?_, ?_, ?_, ?_, ?_, ?_, ?_, ?_, ?_, trivial⟩ ?_
  · intro Xs a w hX hdep hC hI
    have e6 := hI.gi 6 rfl
    have ns : Xs 18 = false := by
        cases y18 : Xs 18 with
        | false => rfl
        | true =>
          have y0 := hC 18 _ rfl y18 ⟨0, .phase⟩ (by simp) rfl
          rw [hX] at y0; cases y0
    have hg := hI.wp.1 ns
    have hw2 : ∀ {d}, d ≠ 18 → (addX Xs d 18 = false → G w) ∧ (addX Xs d 18 = true → G1 w) := fun hd => ⟨fun _ => hg, fun h => by simp [addX, ns, hd.symm] at h⟩
    clear ns
    go_simp
    exact hI.put' (k := 0) (d := 87) (by decide) (by simp) (by simp) (by simp) (hw2 (by decide))
  · intro Xs a w hX hdep hC hI
    have e10 := hI.gi 10 rfl
    have ns : Xs 18 = false := by
        cases y18 : Xs 18 with
        | false => rfl
        | true =>
          have y1 := hC 18 _ rfl y18 ⟨1, .phase⟩ (by simp) rfl
          rw [hX] at y1; cases y1
    have hg := hI.wp.1 ns
    have hw2 : ∀ {d}, d ≠ 18 → (addX Xs d 18 = false → G w) ∧ (addX Xs d 18 = true → G1 w) := fun hd => ⟨fun _ => hg, fun h => by simp [addX, ns, hd.symm] at h⟩
    clear ns
    go_simp
    exact hI.put' (k := 1) (d := 88) (by decide) (by simp) (by simp) (by simp) (hw2 (by decide))
  · intro Xs a w hX hdep hC hI
    have e1 := hI.gi 1 rfl
    have ns : Xs 18 = false := by
        cases y18 : Xs 18 with
        | false => rfl
        | true =>
          have y2 := hC 18 _ rfl y18 ⟨2, .phase⟩ (by simp) rfl
          rw [hX] at y2; cases y2
    have hg := hI.wp.1 ns
    have hw2 : ∀ {d}, d ≠ 18 → (addX Xs d 18 = false → G w) ∧ (addX Xs d 18 = true → G1 w) := fun hd => ⟨fun _ => hg, fun h => by simp [addX, ns, hd.symm] at h⟩
    clear ns
    go_simp
    exact hI.put' (k := 2) (d := 89) (by decide) (by simp) (by simp) (by simp) (hw2 (by decide))
  · intro Xs a w hX hdep hC hI
    have x2 : Xs 2 = true := hdep ⟨2, .data⟩ (by simp) rfl
    have e89 := hI.gk 2 rfl x2
    have ns : Xs 18 = false := by
        cases y18 : Xs 18 with
        | false => rfl
        | true =>
          have y3 := hC 18 _ rfl y18 ⟨3, .phase⟩ (by simp) rfl
          rw [hX] at y3; cases y3
    have hg := hI.wp.1 ns
    have cc0 := c0 w hg
    have hw2 : ∀ {d}, d ≠ 18 → (addX Xs d 18 = false → G w) ∧ (addX Xs d 18 = true → G1 w) := fun hd => ⟨fun _ => hg, fun h => by simp [addX, ns, hd.symm] at h⟩
    clear ns
    go_simp
    exact hI.put' (k := 3) (d := 90) (by decide) (by simp) (by simp) (by simp) (hw2 (by decide))
  · intro Xs a w hX hdep hC hI
    have x1 : Xs 1 = true := hdep ⟨1, .data⟩ (by simp) rfl
    have e88 := hI.gk 1 rfl x1
    have x3 : Xs 3 = true := hdep ⟨3, .data⟩ (by simp) rfl
    have e90 := hI.gk 3 rfl x3
    have ns : Xs 18 = false := by
        cases y18 : Xs 18 with
        | false => rfl
        | true =>
          have y4 := hC 18 _ rfl y18 ⟨4, .phase⟩ (by simp) rfl
          rw [hX] at y4; cases y4
    have hg := hI.wp.1 ns
    have hw2 : ∀ {d}, d ≠ 18 → (addX Xs d 18 = false → G w) ∧ (addX Xs d 18 = true → G1 w) := fun hd => ⟨fun _ => hg, fun h => by simp [addX, ns, hd.symm] at h⟩
    clear ns
    go_simp
    exact hI.put' (k := 4) (d := 91) (by decide) (by simp) (by simp) (by simp) (hw2 (by decide))
  · intro Xs a w hX hdep hC hI
    have e8 := hI.gi 8 rfl
    have ns : Xs 18 = false := by
        cases y18 : Xs 18 with
        | false => rfl
        | true =>
          have y5 := hC 18 _ rfl y18 ⟨5, .phase⟩ (by simp) rfl
          rw [hX] at y5; cases y5
    have hg := hI.wp.1 ns
    have hw2 : ∀ {d}, d ≠ 18 → (addX Xs d 18 = false → G w) ∧ (addX Xs d 18 = true → G1 w) := fun hd => ⟨fun _ => hg, fun h => by simp [addX, ns, hd.symm] at h⟩
    clear ns
    go_simp
    exact hI.put' (k := 5) (d := 92) (by decide) (by simp) (by simp) (by simp) (hw2 (by decide))
  · intro Xs a w hX hdep hC hI
    have x4 : Xs 4 = true := hdep ⟨4, .data⟩ (by simp) rfl
    have e91 := hI.gk 4 rfl x4
    have x5 : Xs 5 = true := hdep ⟨5, .data⟩ (by simp) rfl
    have e92 := hI.gk 5 rfl x5
    have ns : Xs 18 = false := by
        cases y18 : Xs 18 with
        | false => rfl
        | true =>
          have y6 := hC 18 _ rfl y18 ⟨6, .phase⟩ (by simp) rfl
          rw [hX] at y6; cases y6
    have hg := hI.wp.1 ns
    have hw2 : ∀ {d}, d ≠ 18 → (addX Xs d 18 = false → G w) ∧ (addX Xs d 18 = true → G1 w) := fun hd => ⟨fun _ => hg, fun h => by simp [addX, ns, hd.symm] at h⟩
    clear ns
    go_simp
    exact hI.put' (k := 6) (d := 93) (by decide) (by simp) (by simp) (by simp) (hw2 (by decide))
  · intro Xs a w hX hdep hC hI
    have e1 := hI.gi 1 rfl
    have ns : Xs 18 = false := by
        cases y18 : Xs 18 with
        | false => rfl
        | true =>
          have y7 := hC 18 _ rfl y18 ⟨7, .phase⟩ (by simp) rfl
          rw [hX] at y7; cases y7
    have hg := hI.wp.1 ns
    have hw2 : ∀ {d}, d ≠ 18 → (addX Xs d 18 = false → G w) ∧ (addX Xs d 18 = true → G1 w) := fun hd => ⟨fun _ => hg, fun h => by simp [addX, ns, hd.symm] at h⟩
    clear ns
    go_simp
    exact hI.put' (k := 7) (d := 94) (by decide) (by simp) (by simp) (by simp) (hw2 (by decide))
  · intro Xs a w hX hdep hC hI
    have x7 : Xs 7 = true := hdep ⟨7, .data⟩ (by simp) rfl
    have e94 := hI.gk 7 rfl x7
    have ns : Xs 18 = false := by
        cases y18 : Xs 18 with
        | false => rfl
        | true =>
          have y8 := hC 18 _ rfl y18 ⟨8, .phase⟩ (by simp) rfl
          rw [hX] at y8; cases y8
    have hg := hI.wp.1 ns
    have cc0 := c2_ w hg
    have hw2 : ∀ {d}, d ≠ 18 → (addX Xs d 18 = false → G w) ∧ (addX Xs d 18 = true → G1 w) := fun hd => ⟨fun _ => hg, fun h => by simp [addX, ns, hd.symm] at h⟩
    clear ns
    go_simp
    exact hI.put' (k := 8) (d := 95) (by decide) (by simp) (by simp) (by simp) (hw2 (by decide))
  · intro Xs a w hX hdep hC hI
    have x6 : Xs 6 = true := hdep ⟨6, .data⟩ (by simp) rfl
    have e93 := hI.gk 6 rfl x6
    have x8 : Xs 8 = true := hdep ⟨8, .data⟩ (by simp) rfl
    have e95 := hI.gk 8 rfl x8
    have ns : Xs 18 = false := by
        cases y18 : Xs 18 with
        | false => rfl
        | true =>
          have y9 := hC 18 _ rfl y18 ⟨9, .phase⟩ (by simp) rfl
          rw [hX] at y9; cases y9
    have hg := hI.wp.1 ns
    have hw2 : ∀ {d}, d ≠ 18 → (addX Xs d 18 = false → G w) ∧ (addX Xs d 18 = true → G1 w) := fun hd => ⟨fun _ => hg, fun h => by simp [addX, ns, hd.symm] at h⟩
    clear ns
    go_simp
    exact hI.put' (k := 9) (d := 96) (by decide) (by simp) (by simp) (by simp) (hw2 (by decide))
  · intro Xs a w hX hdep hC hI
    have e9 := hI.gi 9 rfl
    have ns : Xs 18 = false := by
        cases y18 : Xs 18 with
        | false => rfl
        | true =>
          have y10 := hC 18 _ rfl y18 ⟨10, .phase⟩ (by simp) rfl
          rw [hX] at y10; cases y10
    have hg := hI.wp.1 ns
    have hw2 : ∀ {d}, d ≠ 18 → (addX Xs d 18 = false → G w) ∧ (addX Xs d 18 = true → G1 w) := fun hd => ⟨fun _ => hg, fun h => by simp [addX, ns, hd.symm] at h⟩
    clear ns
    go_simp
    exact hI.put' (k := 10) (d := 97) (by decide) (by simp) (by simp) (by simp) (hw2 (by decide))
  · intro Xs a w hX hdep hC hI
    have x9 : Xs 9 = true := hdep ⟨9, .data⟩ (by simp) rfl
    have e96 := hI.gk 9 rfl x9
    have x10 : Xs 10 = true := hdep ⟨10, .data⟩ (by simp) rfl
    have e97 := hI.gk 10 rfl x10
    have ns : Xs 18 = false := by
        cases y18 : Xs 18 with
        | false => rfl
        | true =>
          have y11 := hC 18 _ rfl y18 ⟨11, .phase⟩ (by simp) rfl
          rw [hX] at y11; cases y11
    have hg := hI.wp.1 ns
    have hw2 : ∀ {d}, d ≠ 18 → (addX Xs d 18 = false → G w) ∧ (addX Xs d 18 = true → G1 w) := fun hd => ⟨fun _ => hg, fun h => by simp [addX, ns, hd.symm] at h⟩
    clear ns
    go_simp
    exact hI.put' (k := 11) (d := 98) (by decide) (by simp) (by simp) (by simp) (hw2 (by decide))
  · intro Xs a w hX hdep hC hI
    have e1 := hI.gi 1 rfl
    have ns : Xs 18 = false := by
        cases y18 : Xs 18 with
        | false => rfl
        | true =>
          have y12 := hC 18 _ rfl y18 ⟨12, .phase⟩ (by simp) rfl
          rw [hX] at y12; cases y12
    have hg := hI.wp.1 ns
    have hw2 : ∀ {d}, d ≠ 18 → (addX Xs d 18 = false → G w) ∧ (addX Xs d 18 = true → G1 w) := fun hd => ⟨fun _ => hg, fun h => by simp [addX, ns, hd.symm] at h⟩
    clear ns
    go_simp
    exact hI.put' (k := 12) (d := 99) (by decide) (by simp) (by simp) (by simp) (hw2 (by decide))
  · intro Xs a w hX hdep hC hI
    have x12 : Xs 12 = true := hdep ⟨12, .data⟩ (by simp) rfl
    have e99 := hI.gk 12 rfl x12
    have ns : Xs 18 = false := by
        cases y18 : Xs 18 with
        | false => rfl
        | true =>
          have y13 := hC 18 _ rfl y18 ⟨13, .phase⟩ (by simp) rfl
          rw [hX] at y13; cases y13
    have hg := hI.wp.1 ns
    have cc0 := c3 w hg
    have hw2 : ∀ {d}, d ≠ 18 → (addX Xs d 18 = false → G w) ∧ (addX Xs d 18 = true → G1 w) := fun hd => ⟨fun _ => hg, fun h => by simp [addX, ns, hd.symm] at h⟩
    clear ns
    go_simp
    exact hI.put' (k := 13) (d := 100) (by decide) (by simp) (by simp) (by simp) (hw2 (by decide))
  · intro Xs a w hX hdep hC hI
    have e7 := hI.gi 7 rfl
    have ns : Xs 18 = false := by
        cases y18 : Xs 18 with
        | false => rfl
        | true =>
          have y14 := hC 18 _ rfl y18 ⟨14, .phase⟩ (by simp) rfl
          rw [hX] at y14; cases y14
    have hg := hI.wp.1 ns
    have hw2 : ∀ {d}, d ≠ 18 → (addX Xs d 18 = false → G w) ∧ (addX Xs d 18 = true → G1 w) := fun hd => ⟨fun _ => hg, fun h => by simp [addX, ns, hd.symm] at h⟩
    clear ns
    go_simp
    exact hI.put' (k := 14) (d := 101) (by decide) (by simp) (by simp) (by simp) (hw2 (by decide))
  · intro Xs a w hX hdep hC hI
    have x13 : Xs 13 = true := hdep ⟨13, .data⟩ (by simp) rfl
    have e100 := hI.gk 13 rfl x13
    have x14 : Xs 14 = true := hdep ⟨14, .data⟩ (by simp) rfl
    have e101 := hI.gk 14 rfl x14
    have ns : Xs 18 = false := by
        cases y18 : Xs 18 with
        | false => rfl
        | true =>
          have y15 := hC 18 _ rfl y18 ⟨15, .phase⟩ (by simp) rfl
          rw [hX] at y15; cases y15
    have hg := hI.wp.1 ns
    have q1_15 : (0 : Int) ≤ i := by omega
    have q2_15 : (i : Int) < N := by omega
    have hw2 : ∀ {d}, d ≠ 18 → (addX Xs d 18 = false → G w) ∧ (addX Xs d 18 = true → G1 w) := fun hd => ⟨fun _ => hg, fun h => by simp [addX, ns, hd.symm] at h⟩
    clear ns
    go_simp
    exact hI.put' (k := 15) (d := 102) (by decide) (by simp) (by simp) (by simp) (hw2 (by decide))
  · intro Xs a w hX hdep hC hI
    have x15 : Xs 15 = true := hdep ⟨15, .data⟩ (by simp) rfl
    have e102 := hI.gk 15 rfl x15
    have ns : Xs 18 = false := by
        cases y18 : Xs 18 with
        | false => rfl
        | true =>
          have y16 := hC 18 _ rfl y18 ⟨16, .data⟩ (by simp) rfl
          rw [hX] at y16; cases y16
    have hg := hI.wp.1 ns
    have cc0 := ca0 w hg
    have cc1 := ca1 w hg
    have hw2 : ∀ {d}, d ≠ 18 → (addX Xs d 18 = false → G w) ∧ (addX Xs d 18 = true → G1 w) := fun hd => ⟨fun _ => hg, fun h => by simp [addX, ns, hd.symm] at h⟩
    clear ns
    go_simp
    exact hI.put' (k := 16) (d := 103) (by decide) (by simp) (by simp) (by simp) (hw2 (by decide))
  · intro Xs a w hX hdep hC hI
    have x0 : Xs 0 = true := hdep ⟨0, .data⟩ (by simp) rfl
    have e87 := hI.gk 0 rfl x0
    have x11 : Xs 11 = true := hdep ⟨11, .data⟩ (by simp) rfl
    have e98 := hI.gk 11 rfl x11
    have ns : Xs 18 = false := by
        cases y18 : Xs 18 with
        | false => rfl
        | true =>
          have y17 := hC 18 _ rfl y18 ⟨17, .data⟩ (by simp) rfl
          rw [hX] at y17; cases y17
    have hg := hI.wp.1 ns
    have q1_17 : (0 : Int) ≤ s := by omega
    have q2_17 : (s : Int) < N := by omega
    have hw2 : ∀ {d}, d ≠ 18 → (addX Xs d 18 = false → G w) ∧ (addX Xs d 18 = true → G1 w) := fun hd => ⟨fun _ => hg, fun h => by simp [addX, ns, hd.symm] at h⟩
    clear ns
    go_simp
    exact hI.put' (k := 17) (d := 104) (by decide) (by simp) (by simp) (by simp) (hw2 (by decide))
  · intro Xs a w hX hdep hC hI
    have x17 : Xs 17 = true := hdep ⟨17, .data⟩ (by simp) rfl
    have e104 := hI.gk 17 rfl x17
    have x16 : Xs 16 = true := hdep ⟨16, .data⟩ (by simp) rfl
    have e103 := hI.gk 16 rfl x16
    have hg := hI.wp.1 hX
    obtain ⟨⟨v0, cw0⟩, v1, cw1⟩ := cw w hg
    obtain ⟨fw0, fw1⟩ := fw w hg
    go_simp
    exact hI.put_none' (k := 18) (by simp) ⟨fun h => by simp [addX] at h, fun _ => hst w hg⟩
  · intro Xs a w hX hI
    refine hQ a w ⟨hI.size, hI.defers, ?_, hI.wp.2 (hX 18 (by simp))⟩
    simp only [List.mem_cons, List.not_mem_nil, or_false, forall_eq_or_imp, forall_eq]
    exact ⟨hI.gi 1 rfl, hI.gi 3 rfl, hI.gi 5 rfl, hI.gi 6 rfl, hI.gi 7 rfl⟩
set_option maxRecDepth 100000 in
set_option maxHeartbeats 4000000 in
theorem v14 (n : Nat) {G : World → Prop} (B r g2 g3 : Nat) (X Y Z : Int) (N : Nat) (G1 : Nat → World → Prop) (c0 : ∀ w, G w → w.cell? ⟨B, 0, none⟩ = some (.int .i64 X)) (c1 : ∀ w, G w → w.cell? ⟨B, 1, none⟩ = some (.int .i64 Y)) (c2_ : ∀ w, G w → w.cell? ⟨B, 2, none⟩ = some (.int .i64 Z)) (hc : ∀ m w, G w → CallsIn Fence.wide m Try.prog 14 #[.agg #[.int .i64 X, .int .i64 Y, .int .i64 Z, .slice (some ⟨g2, 0, none⟩) N N]] w fun e w' => ∃ (r2 : Nat), e = .returned (.tuple #[.slice (some ⟨r2, 0, none⟩) N N, .int .i64 0]) ∧ (G1 r2) w') (Q : Exit → Act → World → Prop) (a : Act) (w : World) (h0 : SG [(1, .pointer (some ⟨B, 0, none⟩)), (3, .slice (some ⟨r, 0, none⟩) N N), (5, .slice (some ⟨g2, 0, none⟩) N N), (6, .slice (some ⟨g3, 0, none⟩) N N)] 218 G a w)
    (hQ : ∀ (r2 : Nat) a w, SG [(1, .pointer (some ⟨B, 0, none⟩)), (3, .slice (some ⟨r, 0, none⟩) N N), (6, .slice (some ⟨g3, 0, none⟩) N N), (11, .slice (some ⟨r2, 0, none⟩) N N), (12, .int .i64 0)] 218 (G1 r2) a w → Q .normal a w) : (regOf 14 C9).wpIn Fence.wide n Try.prog Q a w := by
  simp only [regOf, C9, Try.f9, Option.getD, Nat.reduceBEq, Bool.false_eq_true, if_true, if_false]
  refine region_sq (fun k_ a w => match k_ with | 0 => SG [(1, .pointer (some ⟨B, 0, none⟩)), (3, .slice (some ⟨r, 0, none⟩) N N), (5, .slice (some ⟨g2, 0, none⟩) N N), (6, .slice (some ⟨g3, 0, none⟩) N N)] 218 G a w | 1 => SG [(1, .pointer (some ⟨B, 0, none⟩)), (3, .slice (some ⟨r, 0, none⟩) N N), (5, .slice (some ⟨g2, 0, none⟩) N N), (6, .slice (some ⟨g3, 0, none⟩) N N), (106, .pointer (some ⟨B, 0, none⟩))] 218 G a w | 2 => SG [(1, .pointer (some ⟨B, 0, none⟩)), (3, .slice (some ⟨r, 0, none⟩) N N), (5, .slice (some ⟨g2, 0, none⟩) N N), (6, .slice (some ⟨g3, 0, none⟩) N N), (107, .int .i64 X)] 218 G a w | 3 => SG [(1, .pointer (some ⟨B, 0, none⟩)), (3, .slice (some ⟨r, 0, none⟩) N N), (5, .slice (some ⟨g2, 0, none⟩) N N), (6, .slice (some ⟨g3, 0, none⟩) N N), (107, .int .i64 X), (108, .pointer (some ⟨B, 1, none⟩))] 218 G a w | 4 => SG [(1, .pointer (some ⟨B, 0, none⟩)), (3, .slice (some ⟨r, 0, none⟩) N N), (5, .slice (some ⟨g2, 0, none⟩) N N), (6, .slice (some ⟨g3, 0, none⟩) N N), (107, .int .i64 X), (109, .int .i64 Y)] 218 G a w | 5 => SG [(1, .pointer (some ⟨B, 0, none⟩)), (3, .slice (some ⟨r, 0, none⟩) N N), (5, .slice (some ⟨g2, 0, none⟩) N N), (6, .slice (some ⟨g3, 0, none⟩) N N), (107, .int .i64 X), (109, .int .i64 Y), (110, .pointer (some ⟨B, 2, none⟩))] 218 G a w | 6 => SG [(1, .pointer (some ⟨B, 0, none⟩)), (3, .slice (some ⟨r, 0, none⟩) N N), (5, .slice (some ⟨g2, 0, none⟩) N N), (6, .slice (some ⟨g3, 0, none⟩) N N), (107, .int .i64 X), (109, .int .i64 Y), (111, .int .i64 Z)] 218 G a w | 7 => SG [(1, .pointer (some ⟨B, 0, none⟩)), (3, .slice (some ⟨r, 0, none⟩) N N), (6, .slice (some ⟨g3, 0, none⟩) N N), (107, .int .i64 X), (109, .int .i64 Y), (111, .int .i64 Z), (112, .slice (some ⟨g2, 0, none⟩) N N)] 218 G a w | 8 => SG [(1, .pointer (some ⟨B, 0, none⟩)), (3, .slice (some ⟨r, 0, none⟩) N N), (6, .slice (some ⟨g3, 0, none⟩) N N), (113, .agg #[.int .i64 X, .int .i64 Y, .int .i64 Z, .slice (some ⟨g2, 0, none⟩) N N])] 218 G a w | 9 => ∃ (r2 : Nat), SG [(1, .pointer (some ⟨B, 0, none⟩)), (3, .slice (some ⟨r, 0, none⟩) N N), (6, .slice (some ⟨g3, 0, none⟩) N N), (114, .tuple #[.slice (some ⟨r2, 0, none⟩) N N, .int .i64 0])] 218 (G1 r2) a w | 10 => ∃ (r2 : Nat), SG [(1, .pointer (some ⟨B, 0, none⟩)), (3, .slice (some ⟨r, 0, none⟩) N N), (6, .slice (some ⟨g3, 0, none⟩) N N), (105, .tuple #[.slice (some ⟨r2, 0, none⟩) N N, .int .i64 0])] 218 (G1 r2) a w | 11 => ∃ (r2 : Nat), SG [(1, .pointer (some ⟨B, 0, none⟩)), (3, .slice (some ⟨r, 0, none⟩) N N), (6, .slice (some ⟨g3, 0, none⟩) N N), (105, .tuple #[.slice (some ⟨r2, 0, none⟩) N N, .int .i64 0]), (115, .slice (some ⟨r2, 0, none⟩) N N)] 218 (G1 r2) a w | 12 => ∃ (r2 : Nat), SG [(1, .pointer (some ⟨B, 0, none⟩)), (3, .slice (some ⟨r, 0, none⟩) N N), (6, .slice (some ⟨g3, 0, none⟩) N N), (115, .slice (some ⟨r2, 0, none⟩) N N), (116, .int .i64 0)] 218 (G1 r2) a w | 13 => ∃ (r2 : Nat), SG [(1, .pointer (some ⟨B, 0, none⟩)), (3, .slice (some ⟨r, 0, none⟩) N N), (6, .slice (some ⟨g3, 0, none⟩) N N), (116, .int .i64 0), (11, .slice (some ⟨r2, 0, none⟩) N N)] 218 (G1 r2) a w | _ => ∃ (r2 : Nat), SG [(1, .pointer (some ⟨B, 0, none⟩)), (3, .slice (some ⟨r, 0, none⟩) N N), (6, .slice (some ⟨g3, 0, none⟩) N N), (11, .slice (some ⟨r2, 0, none⟩) N N), (12, .int .i64 0)] 218 (G1 r2) a w) (show SG _ _ G a w from h0) ⟨?_, ?_, ?_, ?_, ?_, ?_, ?_, ?_, ?_, ?_, ?_, ?_, ?_, ?_, trivial⟩ ?_
  · intro a w hI
    have hI : SG _ _ G a w := hI
    have e1 := hI.g 1 rfl
    go_simp
    exact hI.put (d := 106) (by decide) (by simp) hI.wp
  · intro a w hI
    have hI : SG _ _ G a w := hI
    have e106 := hI.g 106 rfl
    have cc0 := c0 w hI.wp
    go_simp
    exact hI.put (d := 107) (by decide) (by simp) hI.wp
  · intro a w hI
    have hI : SG _ _ G a w := hI
    have e1 := hI.g 1 rfl
    go_simp
    exact hI.put (d := 108) (by decide) (by simp) hI.wp
  · intro a w hI
    have hI : SG _ _ G a w := hI
    have e108 := hI.g 108 rfl
    have cc0 := c1 w hI.wp
    go_simp
    exact hI.put (d := 109) (by decide) (by simp) hI.wp
  · intro a w hI
    have hI : SG _ _ G a w := hI
    have e1 := hI.g 1 rfl
    go_simp
    exact hI.put (d := 110) (by decide) (by simp) hI.wp
  · intro a w hI
    have hI : SG _ _ G a w := hI
    have e110 := hI.g 110 rfl
    have cc0 := c2_ w hI.wp
    go_simp
    exact hI.put (d := 111) (by decide) (by simp) hI.wp
  · intro a w hI
    have hI : SG _ _ G a w := hI
    have e5 := hI.g 5 rfl
    go_simp
    exact hI.put (d := 112) (by decide) (by simp) hI.wp
  · intro a w hI
    have hI : SG _ _ G a w := hI
    have e107 := hI.g 107 rfl
    have e109 := hI.g 109 rfl
    have e111 := hI.g 111 rfl
    have e112 := hI.g 112 rfl
    go_simp
    exact hI.put (d := 113) (by decide) (by simp) hI.wp
  · intro a w hI
    have hI : SG _ _ G a w := hI
    have e113 := hI.g 113 rfl
    go_simp
    refine ⟨trivial, fun h => (by cases h), (hc (n - 1) w hI.wp).mono ?_⟩
    rintro e w' ⟨r2, rfl, hg2⟩
    exact ⟨r2, hI.put (d := 114) (by decide) (by simp) hg2⟩
  · rintro a w ⟨r2, hI⟩
    have e114 := hI.g 114 rfl
    go_simp
    exact ⟨r2, hI.put (d := 105) (by decide) (by simp) hI.wp⟩
  · rintro a w ⟨r2, hI⟩
    have e105 := hI.g 105 rfl
    go_simp
    exact ⟨r2, hI.put (d := 115) (by decide) (by simp) hI.wp⟩
  · rintro a w ⟨r2, hI⟩
    have e105 := hI.g 105 rfl
    go_simp
    exact ⟨r2, hI.put (d := 116) (by decide) (by simp) hI.wp⟩
  · rintro a w ⟨r2, hI⟩
    have e115 := hI.g 115 rfl
    go_simp
    exact ⟨r2, hI.put (d := 11) (by decide) (by simp) hI.wp⟩
  · rintro a w ⟨r2, hI⟩
    have e116 := hI.g 116 rfl
    go_simp
    exact ⟨r2, hI.put (d := 12) (by decide) (by simp) hI.wp⟩
  · rintro a w ⟨r2, hI⟩
    exact hQ r2 a w hI
set_option maxRecDepth 100000 in
set_option maxHeartbeats 4000000 in
theorem v15 (n : Nat) {G : World → Prop} (B r g3 r2 : Nat) (X Y Z : Int) (N : Nat) (G1 : Nat → World → Prop) (c2_ : ∀ w, G w → w.cell? ⟨B, 2, none⟩ = some (.int .i64 Z)) (c1 : ∀ w, G w → w.cell? ⟨B, 1, none⟩ = some (.int .i64 Y)) (c0 : ∀ w, G w → w.cell? ⟨B, 0, none⟩ = some (.int .i64 X)) (hc : ∀ m w, G w → CallsIn Fence.wide m Try.prog 14 #[.agg #[.int .i64 Z, .int .i64 Y, .int .i64 X, .slice (some ⟨g3, 0, none⟩) N N]] w fun e w' => ∃ (r3 : Nat), e = .returned (.tuple #[.slice (some ⟨r3, 0, none⟩) N N, .int .i64 0]) ∧ (G1 r3) w') (Q : Exit → Act → World → Prop) (a : Act) (w : World) (h0 : SG [(1, .pointer (some ⟨B, 0, none⟩)), (3, .slice (some ⟨r, 0, none⟩) N N), (6, .slice (some ⟨g3, 0, none⟩) N N), (11, .slice (some ⟨r2, 0, none⟩) N N), (12, .int .i64 0)] 218 G a w)
    (hQ : ∀ (r3 : Nat) a w, SG [(1, .pointer (some ⟨B, 0, none⟩)), (3, .slice (some ⟨r, 0, none⟩) N N), (11, .slice (some ⟨r2, 0, none⟩) N N), (12, .int .i64 0), (13, .slice (some ⟨r3, 0, none⟩) N N), (14, .int .i64 0)] 218 (G1 r3) a w → Q .normal a w) : (regOf 15 C9).wpIn Fence.wide n Try.prog Q a w := by
  simp only [regOf, C9, Try.f9, Option.getD, Nat.reduceBEq, Bool.false_eq_true, if_true, if_false]
  refine region_sq (fun k_ a w => match k_ with | 0 => SG [(1, .pointer (some ⟨B, 0, none⟩)), (3, .slice (some ⟨r, 0, none⟩) N N), (6, .slice (some ⟨g3, 0, none⟩) N N), (11, .slice (some ⟨r2, 0, none⟩) N N), (12, .int .i64 0)] 218 G a w | 1 => SG [(1, .pointer (some ⟨B, 0, none⟩)), (3, .slice (some ⟨r, 0, none⟩) N N), (6, .slice (some ⟨g3, 0, none⟩) N N), (11, .slice (some ⟨r2, 0, none⟩) N N), (12, .int .i64 0), (118, .pointer (some ⟨B, 2, none⟩))] 218 G a w | 2 => SG [(1, .pointer (some ⟨B, 0, none⟩)), (3, .slice (some ⟨r, 0, none⟩) N N), (6, .slice (some ⟨g3, 0, none⟩) N N), (11, .slice (some ⟨r2, 0, none⟩) N N), (12, .int .i64 0), (119, .int .i64 Z)] 218 G a w | 3 => SG [(1, .pointer (some ⟨B, 0, none⟩)), (3, .slice (some ⟨r, 0, none⟩) N N), (6, .slice (some ⟨g3, 0, none⟩) N N), (11, .slice (some ⟨r2, 0, none⟩) N N), (12, .int .i64 0), (119, .int .i64 Z), (120, .pointer (some ⟨B, 1, none⟩))] 218 G a w | 4 => SG [(1, .pointer (some ⟨B, 0, none⟩)), (3, .slice (some ⟨r, 0, none⟩) N N), (6, .slice (some ⟨g3, 0, none⟩) N N), (11, .slice (some ⟨r2, 0, none⟩) N N), (12, .int .i64 0), (119, .int .i64 Z), (121, .int .i64 Y)] 218 G a w | 5 => SG [(1, .pointer (some ⟨B, 0, none⟩)), (3, .slice (some ⟨r, 0, none⟩) N N), (6, .slice (some ⟨g3, 0, none⟩) N N), (11, .slice (some ⟨r2, 0, none⟩) N N), (12, .int .i64 0), (119, .int .i64 Z), (121, .int .i64 Y), (122, .pointer (some ⟨B, 0, none⟩))] 218 G a w | 6 => SG [(1, .pointer (some ⟨B, 0, none⟩)), (3, .slice (some ⟨r, 0, none⟩) N N), (6, .slice (some ⟨g3, 0, none⟩) N N), (11, .slice (some ⟨r2, 0, none⟩) N N), (12, .int .i64 0), (119, .int .i64 Z), (121, .int .i64 Y), (123, .int .i64 X)] 218 G a w | 7 => SG [(1, .pointer (some ⟨B, 0, none⟩)), (3, .slice (some ⟨r, 0, none⟩) N N), (11, .slice (some ⟨r2, 0, none⟩) N N), (12, .int .i64 0), (119, .int .i64 Z), (121, .int .i64 Y), (123, .int .i64 X), (124, .slice (some ⟨g3, 0, none⟩) N N)] 218 G a w | 8 => SG [(1, .pointer (some ⟨B, 0, none⟩)), (3, .slice (some ⟨r, 0, none⟩) N N), (11, .slice (some ⟨r2, 0, none⟩) N N), (12, .int .i64 0), (125, .agg #[.int .i64 Z, .int .i64 Y, .int .i64 X, .slice (some ⟨g3, 0, none⟩) N N])] 218 G a w | 9 => ∃ (r3 : Nat), SG [(1, .pointer (some ⟨B, 0, none⟩)), (3, .slice (some ⟨r, 0, none⟩) N N), (11, .slice (some ⟨r2, 0, none⟩) N N), (12, .int .i64 0), (126, .tuple #[.slice (some ⟨r3, 0, none⟩) N N, .int .i64 0])] 218 (G1 r3) a w | 10 => ∃ (r3 : Nat), SG [(1, .pointer (some ⟨B, 0, none⟩)), (3, .slice (some ⟨r, 0, none⟩) N N), (11, .slice (some ⟨r2, 0, none⟩) N N), (12, .int .i64 0), (117, .tuple #[.slice (some ⟨r3, 0, none⟩) N N, .int .i64 0])] 218 (G1 r3) a w | 11 => ∃ (r3 : Nat), SG [(1, .pointer (some ⟨B, 0, none⟩)), (3, .slice (some ⟨r, 0, none⟩) N N), (11, .slice (some ⟨r2, 0, none⟩) N N), (12, .int .i64 0), (117, .tuple #[.slice (some ⟨r3, 0, none⟩) N N, .int .i64 0]), (127, .slice (some ⟨r3, 0, none⟩) N N)] 218 (G1 r3) a w | 12 => ∃ (r3 : Nat), SG [(1, .pointer (some ⟨B, 0, none⟩)), (3, .slice (some ⟨r, 0, none⟩) N N), (11, .slice (some ⟨r2, 0, none⟩) N N), (12, .int .i64 0), (127, .slice (some ⟨r3, 0, none⟩) N N), (128, .int .i64 0)] 218 (G1 r3) a w | 13 => ∃ (r3 : Nat), SG [(1, .pointer (some ⟨B, 0, none⟩)), (3, .slice (some ⟨r, 0, none⟩) N N), (11, .slice (some ⟨r2, 0, none⟩) N N), (12, .int .i64 0), (128, .int .i64 0), (13, .slice (some ⟨r3, 0, none⟩) N N)] 218 (G1 r3) a w | _ => ∃ (r3 : Nat), SG [(1, .pointer (some ⟨B, 0, none⟩)), (3, .slice (some ⟨r, 0, none⟩) N N), (11, .slice (some ⟨r2, 0, none⟩) N N), (12, .int .i64 0), (13, .slice (some ⟨r3, 0, none⟩) N N), (14, .int .i64 0)] 218 (G1 r3) a w) (show SG _ _ G a w from h0) ⟨?_, ?_, ?_, ?_, ?_, ?_, ?_, ?_, ?_, ?_, ?_, ?_, ?_, ?_, trivial⟩ ?_
  · intro a w hI
    have hI : SG _ _ G a w := hI
    have e1 := hI.g 1 rfl
    go_simp
    exact hI.put (d := 118) (by decide) (by simp) hI.wp
  · intro a w hI
    have hI : SG _ _ G a w := hI
    have e118 := hI.g 118 rfl
    have cc0 := c2_ w hI.wp
    go_simp
    exact hI.put (d := 119) (by decide) (by simp) hI.wp
  · intro a w hI
    have hI : SG _ _ G a w := hI
    have e1 := hI.g 1 rfl
    go_simp
    exact hI.put (d := 120) (by decide) (by simp) hI.wp
  · intro a w hI
    have hI : SG _ _ G a w := hI
    have e120 := hI.g 120 rfl
    have cc0 := c1 w hI.wp
    go_simp
    exact hI.put (d := 121) (by decide) (by simp) hI.wp
  · intro a w hI
    have hI : SG _ _ G a w := hI
    have e1 := hI.g 1 rfl
    go_simp
    exact hI.put (d := 122) (by decide) (by simp) hI.wp
  · intro a w hI
    have hI : SG _ _ G a w := hI
    have e122 := hI.g 122 rfl
    have cc0 := c0 w hI.wp
    go_simp
    exact hI.put (d := 123) (by decide) (by simp) hI.wp
  · intro a w hI
    have hI : SG _ _ G a w := hI
    have e6 := hI.g 6 rfl
    go_simp
    exact hI.put (d := 124) (by decide) (by simp) hI.wp
  · intro a w hI
    have hI : SG _ _ G a w := hI
    have e119 := hI.g 119 rfl
    have e121 := hI.g 121 rfl
    have e123 := hI.g 123 rfl
    have e124 := hI.g 124 rfl
    go_simp
    exact hI.put (d := 125) (by decide) (by simp) hI.wp
  · intro a w hI
    have hI : SG _ _ G a w := hI
    have e125 := hI.g 125 rfl
    go_simp
    refine ⟨trivial, fun h => (by cases h), (hc (n - 1) w hI.wp).mono ?_⟩
    rintro e w' ⟨r3, rfl, hg2⟩
    exact ⟨r3, hI.put (d := 126) (by decide) (by simp) hg2⟩
  · rintro a w ⟨r3, hI⟩
    have e126 := hI.g 126 rfl
    go_simp
    exact ⟨r3, hI.put (d := 117) (by decide) (by simp) hI.wp⟩
  · rintro a w ⟨r3, hI⟩
    have e117 := hI.g 117 rfl
    go_simp
    exact ⟨r3, hI.put (d := 127) (by decide) (by simp) hI.wp⟩
  · rintro a w ⟨r3, hI⟩
    have e117 := hI.g 117 rfl
    go_simp
    exact ⟨r3, hI.put (d := 128) (by decide) (by simp) hI.wp⟩
  · rintro a w ⟨r3, hI⟩
    have e127 := hI.g 127 rfl
    go_simp
    exact ⟨r3, hI.put (d := 13) (by decide) (by simp) hI.wp⟩
  · rintro a w ⟨r3, hI⟩
    have e128 := hI.g 128 rfl
    go_simp
    exact ⟨r3, hI.put (d := 14) (by decide) (by simp) hI.wp⟩
  · rintro a w ⟨r3, hI⟩
    exact hQ r3 a w hI
set_option maxRecDepth 100000 in
set_option maxHeartbeats 4000000 in
theorem v16 (n : Nat) (W : World) (B r r2 r3 N : Nat) (Q : Exit → Act → World → Prop) (a : Act) (h0 : SR [(1, .pointer (some ⟨B, 0, none⟩)), (3, .slice (some ⟨r, 0, none⟩) N N), (11, .slice (some ⟨r2, 0, none⟩) N N), (12, .int .i64 0), (13, .slice (some ⟨r3, 0, none⟩) N N), (14, .int .i64 0)] 218 [] W a W)
    (hQ : ∀ a, SR [(1, .pointer (some ⟨B, 0, none⟩)), (3, .slice (some ⟨r, 0, none⟩) N N), (11, .slice (some ⟨r2, 0, none⟩) N N), (13, .slice (some ⟨r3, 0, none⟩) N N), (148, .bool false)] 218 [] (W) a (W) → Q .normal a (W)) : (regOf 16 C9).wpIn Fence.wide n Try.prog Q a W := by
  simp only [regOf, C9, Try.f9, Option.getD, Nat.reduceBEq, Bool.false_eq_true, if_true, if_false]
  refine region_sq (fun k_ a w => match k_ with | 0 => SR [(1, .pointer (some ⟨B, 0, none⟩)), (3, .slice (some ⟨r, 0, none⟩) N N), (11, .slice (some ⟨r2, 0, none⟩) N N), (12, .int .i64 0), (13, .slice (some ⟨r3, 0, none⟩) N N), (14, .int .i64 0)] 218 [] (W) a w | 1 => SR [(1, .pointer (some ⟨B, 0, none⟩)), (3, .slice (some ⟨r, 0, none⟩) N N), (11, .slice (some ⟨r2, 0, none⟩) N N), (13, .slice (some ⟨r3, 0, none⟩) N N), (14, .int .i64 0), (129, .int .i64 0)] 218 [] (W) a w | 2 => SR [(1, .pointer (some ⟨B, 0, none⟩)), (3, .slice (some ⟨r, 0, none⟩) N N), (11, .slice (some ⟨r2, 0, none⟩) N N), (13, .slice (some ⟨r3, 0, none⟩) N N), (14, .int .i64 0), (130, .bool false)] 218 [] (W) a w | 3 => SR [(1, .pointer (some ⟨B, 0, none⟩)), (3, .slice (some ⟨r, 0, none⟩) N N), (11, .slice (some ⟨r2, 0, none⟩) N N), (13, .slice (some ⟨r3, 0, none⟩) N N), (14, .int .i64 0), (131, .bool false)] 218 [] (W) a w | 4 => SR [(1, .pointer (some ⟨B, 0, none⟩)), (3, .slice (some ⟨r, 0, none⟩) N N), (11, .slice (some ⟨r2, 0, none⟩) N N), (13, .slice (some ⟨r3, 0, none⟩) N N), (131, .bool false), (132, .int .i64 0)] 218 [] (W) a w | 5 => SR [(1, .pointer (some ⟨B, 0, none⟩)), (3, .slice (some ⟨r, 0, none⟩) N N), (11, .slice (some ⟨r2, 0, none⟩) N N), (13, .slice (some ⟨r3, 0, none⟩) N N), (131, .bool false), (133, .bool false)] 218 [] (W) a w | 6 => SR [(1, .pointer (some ⟨B, 0, none⟩)), (3, .slice (some ⟨r, 0, none⟩) N N), (11, .slice (some ⟨r2, 0, none⟩) N N), (13, .slice (some ⟨r3, 0, none⟩) N N), (134, .bool false)] 218 [] (W) a w | 7 => SR [(1, .pointer (some ⟨B, 0, none⟩)), (3, .slice (some ⟨r, 0, none⟩) N N), (11, .slice (some ⟨r2, 0, none⟩) N N), (13, .slice (some ⟨r3, 0, none⟩) N N), (135, .bool false)] 218 [] (W) a w | 8 => SR [(1, .pointer (some ⟨B, 0, none⟩)), (3, .slice (some ⟨r, 0, none⟩) N N), (11, .slice (some ⟨r2, 0, none⟩) N N), (13, .slice (some ⟨r3, 0, none⟩) N N), (135, .bool false), (136, .slice (some ⟨r2, 0, none⟩) N N)] 218 [] (W) a w | 9 => SR [(1, .pointer (some ⟨B, 0, none⟩)), (3, .slice (some ⟨r, 0, none⟩) N N), (11, .slice (some ⟨r2, 0, none⟩) N N), (13, .slice (some ⟨r3, 0, none⟩) N N), (135, .bool false), (137, .int .i64 N)] 218 [] (W) a w | 10 => SR [(1, .pointer (some ⟨B, 0, none⟩)), (3, .slice (some ⟨r, 0, none⟩) N N), (11, .slice (some ⟨r2, 0, none⟩) N N), (13, .slice (some ⟨r3, 0, none⟩) N N), (135, .bool false), (137, .int .i64 N), (138, .slice (some ⟨r, 0, none⟩) N N)] 218 [] (W) a w | 11 => SR [(1, .pointer (some ⟨B, 0, none⟩)), (3, .slice (some ⟨r, 0, none⟩) N N), (11, .slice (some ⟨r2, 0, none⟩) N N), (13, .slice (some ⟨r3, 0, none⟩) N N), (135, .bool false), (137, .int .i64 N), (139, .int .i64 N)] 218 [] (W) a w | 12 => SR [(1, .pointer (some ⟨B, 0, none⟩)), (3, .slice (some ⟨r, 0, none⟩) N N), (11, .slice (some ⟨r2, 0, none⟩) N N), (13, .slice (some ⟨r3, 0, none⟩) N N), (135, .bool false), (140, .bool false)] 218 [] (W) a w | 13 => SR [(1, .pointer (some ⟨B, 0, none⟩)), (3, .slice (some ⟨r, 0, none⟩) N N), (11, .slice (some ⟨r2, 0, none⟩) N N), (13, .slice (some ⟨r3, 0, none⟩) N N), (141, .bool false)] 218 [] (W) a w | 14 => SR [(1, .pointer (some ⟨B, 0, none⟩)), (3, .slice (some ⟨r, 0, none⟩) N N), (11, .slice (some ⟨r2, 0, none⟩) N N), (13, .slice (some ⟨r3, 0, none⟩) N N), (142, .bool false)] 218 [] (W) a w | 15 => SR [(1, .pointer (some ⟨B, 0, none⟩)), (3, .slice (some ⟨r, 0, none⟩) N N), (11, .slice (some ⟨r2, 0, none⟩) N N), (13, .slice (some ⟨r3, 0, none⟩) N N), (142, .bool false), (143, .slice (some ⟨r3, 0, none⟩) N N)] 218 [] (W) a w | 16 => SR [(1, .pointer (some ⟨B, 0, none⟩)), (3, .slice (some ⟨r, 0, none⟩) N N), (11, .slice (some ⟨r2, 0, none⟩) N N), (13, .slice (some ⟨r3, 0, none⟩) N N), (142, .bool false), (144, .int .i64 N)] 218 [] (W) a w | 17 => SR [(1, .pointer (some ⟨B, 0, none⟩)), (3, .slice (some ⟨r, 0, none⟩) N N), (11, .slice (some ⟨r2, 0, none⟩) N N), (13, .slice (some ⟨r3, 0, none⟩) N N), (142, .bool false), (144, .int .i64 N), (145, .slice (some ⟨r, 0, none⟩) N N)] 218 [] (W) a w | 18 => SR [(1, .pointer (some ⟨B, 0, none⟩)), (3, .slice (some ⟨r, 0, none⟩) N N), (11, .slice (some ⟨r2, 0, none⟩) N N), (13, .slice (some ⟨r3, 0, none⟩) N N), (142, .bool false), (144, .int .i64 N), (146, .int .i64 N)] 218 [] (W) a w | 19 => SR [(1, .pointer (some ⟨B, 0, none⟩)), (3, .slice (some ⟨r, 0, none⟩) N N), (11, .slice (some ⟨r2, 0, none⟩) N N), (13, .slice (some ⟨r3, 0, none⟩) N N), (142, .bool false), (147, .bool false)] 218 [] (W) a w | _ => SR [(1, .pointer (some ⟨B, 0, none⟩)), (3, .slice (some ⟨r, 0, none⟩) N N), (11, .slice (some ⟨r2, 0, none⟩) N N), (13, .slice (some ⟨r3, 0, none⟩) N N), (148, .bool false)] 218 [] (W) a w) (show SR _ _ _ _ a W from h0) ⟨?_, ?_, ?_, ?_, ?_, ?_, ?_, ?_, ?_, ?_, ?_, ?_, ?_, ?_, ?_, ?_, ?_, ?_, ?_, ?_, trivial⟩ ?_
  · intro a w hI
    have hI : SR _ _ _ _ a w := hI
    have e12 := hI.g 12 rfl
    have hw : w = W := hI.wp
    subst hw
    go_simp
    exact hI.put (d := 129) (by decide) (by simp)
  · intro a w hI
    have hI : SR _ _ _ _ a w := hI
    have e129 := hI.g 129 rfl
    have hw : w = W := hI.wp
    subst hw
    go_simp
    exact hI.put (d := 130) (by decide) (by simp)
  · intro a w hI
    have hI : SR _ _ _ _ a w := hI
    have e130 := hI.g 130 rfl
    have hw : w = W := hI.wp
    subst hw
    go_simp
    exact hI.put (d := 131) (by decide) (by simp)
  · intro a w hI
    have hI : SR _ _ _ _ a w := hI
    have e14 := hI.g 14 rfl
    have e131 := hI.g 131 rfl
    have f131 := slot_bool e131
    have hw : w = W := hI.wp
    subst hw
    go_simp
    exact hI.put (d := 132) (by decide) (by simp)
  · intro a w hI
    have hI : SR _ _ _ _ a w := hI
    have e132 := hI.g 132 rfl
    have e131 := hI.g 131 rfl
    have f131 := slot_bool e131
    have hw : w = W := hI.wp
    subst hw
    go_simp
    exact hI.put (d := 133) (by decide) (by simp)
  · intro a w hI
    have hI : SR _ _ _ _ a w := hI
    have e131 := hI.g 131 rfl
    have e133 := hI.g 133 rfl
    have hw : w = W := hI.wp
    subst hw
    go_simp
    exact hI.put (d := 134) (by decide) (by simp)
  · intro a w hI
    have hI : SR _ _ _ _ a w := hI
    have e134 := hI.g 134 rfl
    have hw : w = W := hI.wp
    subst hw
    go_simp
    exact hI.put (d := 135) (by decide) (by simp)
  · intro a w hI
    have hI : SR _ _ _ _ a w := hI
    have e11 := hI.g 11 rfl
    have e135 := hI.g 135 rfl
    have f135 := slot_bool e135
    have hw : w = W := hI.wp
    subst hw
    go_simp
    exact hI.put (d := 136) (by decide) (by simp)
  · intro a w hI
    have hI : SR _ _ _ _ a w := hI
    have e136 := hI.g 136 rfl
    have e135 := hI.g 135 rfl
    have f135 := slot_bool e135
    have hw : w = W := hI.wp
    subst hw
    go_simp
    exact hI.put (d := 137) (by decide) (by simp)
  · intro a w hI
    have hI : SR _ _ _ _ a w := hI
    have e3 := hI.g 3 rfl
    have e135 := hI.g 135 rfl
    have f135 := slot_bool e135
    have hw : w = W := hI.wp
    subst hw
    go_simp
    exact hI.put (d := 138) (by decide) (by simp)
  · intro a w hI
    have hI : SR _ _ _ _ a w := hI
    have e138 := hI.g 138 rfl
    have e135 := hI.g 135 rfl
    have f135 := slot_bool e135
    have hw : w = W := hI.wp
    subst hw
    go_simp
    exact hI.put (d := 139) (by decide) (by simp)
  · intro a w hI
    have hI : SR _ _ _ _ a w := hI
    have e137 := hI.g 137 rfl
    have e139 := hI.g 139 rfl
    have e135 := hI.g 135 rfl
    have f135 := slot_bool e135
    have hw : w = W := hI.wp
    subst hw
    go_simp
    exact hI.put (d := 140) (by decide) (by simp)
  · intro a w hI
    have hI : SR _ _ _ _ a w := hI
    have e135 := hI.g 135 rfl
    have e140 := hI.g 140 rfl
    have hw : w = W := hI.wp
    subst hw
    go_simp
    exact hI.put (d := 141) (by decide) (by simp)
  · intro a w hI
    have hI : SR _ _ _ _ a w := hI
    have e141 := hI.g 141 rfl
    have hw : w = W := hI.wp
    subst hw
    go_simp
    exact hI.put (d := 142) (by decide) (by simp)
  · intro a w hI
    have hI : SR _ _ _ _ a w := hI
    have e13 := hI.g 13 rfl
    have e142 := hI.g 142 rfl
    have f142 := slot_bool e142
    have hw : w = W := hI.wp
    subst hw
    go_simp
    exact hI.put (d := 143) (by decide) (by simp)
  · intro a w hI
    have hI : SR _ _ _ _ a w := hI
    have e143 := hI.g 143 rfl
    have e142 := hI.g 142 rfl
    have f142 := slot_bool e142
    have hw : w = W := hI.wp
    subst hw
    go_simp
    exact hI.put (d := 144) (by decide) (by simp)
  · intro a w hI
    have hI : SR _ _ _ _ a w := hI
    have e3 := hI.g 3 rfl
    have e142 := hI.g 142 rfl
    have f142 := slot_bool e142
    have hw : w = W := hI.wp
    subst hw
    go_simp
    exact hI.put (d := 145) (by decide) (by simp)
  · intro a w hI
    have hI : SR _ _ _ _ a w := hI
    have e145 := hI.g 145 rfl
    have e142 := hI.g 142 rfl
    have f142 := slot_bool e142
    have hw : w = W := hI.wp
    subst hw
    go_simp
    exact hI.put (d := 146) (by decide) (by simp)
  · intro a w hI
    have hI : SR _ _ _ _ a w := hI
    have e144 := hI.g 144 rfl
    have e146 := hI.g 146 rfl
    have e142 := hI.g 142 rfl
    have f142 := slot_bool e142
    have hw : w = W := hI.wp
    subst hw
    go_simp
    exact hI.put (d := 147) (by decide) (by simp)
  · intro a w hI
    have hI : SR _ _ _ _ a w := hI
    have e142 := hI.g 142 rfl
    have e147 := hI.g 147 rfl
    have hw : w = W := hI.wp
    subst hw
    go_simp
    exact hI.put (d := 148) (by decide) (by simp)
  · intro a w hI
    have hI : SR _ _ _ _ a w := hI
    have hw : w = W := hI.wp
    subst hw
    exact hQ a hI
set_option maxRecDepth 100000 in
set_option maxHeartbeats 4000000 in
theorem v18 (n : Nat) (W : World) (B r r2 r3 N : Nat)  (Q : Exit → Act → World → Prop) (a : Act) (h0 : SR [(1, .pointer (some ⟨B, 0, none⟩)), (3, .slice (some ⟨r, 0, none⟩) N N), (11, .slice (some ⟨r2, 0, none⟩) N N), (13, .slice (some ⟨r3, 0, none⟩) N N)] 218 [] W a W)
    (hQ : ∀ a, SR [(1, .pointer (some ⟨B, 0, none⟩)), (3, .slice (some ⟨r, 0, none⟩) N N), (11, .slice (some ⟨r2, 0, none⟩) N N), (13, .slice (some ⟨r3, 0, none⟩) N N), (15, .int .i64 0)] 218 [] (W) a (W) → Q .normal a (W)) : (regOf 18 C9).wpIn Fence.wide n Try.prog Q a W := by
  simp only [regOf, C9, Try.f9, Option.getD, Nat.reduceBEq, Bool.false_eq_true, if_true, if_false]
  refine region_sq (fun k_ a w => match k_ with | 0 => SR [(1, .pointer (some ⟨B, 0, none⟩)), (3, .slice (some ⟨r, 0, none⟩) N N), (11, .slice (some ⟨r2, 0, none⟩) N N), (13, .slice (some ⟨r3, 0, none⟩) N N)] 218 [] (W) a w | _ => SR [(1, .pointer (some ⟨B, 0, none⟩)), (3, .slice (some ⟨r, 0, none⟩) N N), (11, .slice (some ⟨r2, 0, none⟩) N N), (13, .slice (some ⟨r3, 0, none⟩) N N), (15, .int .i64 0)] 218 [] (W) a w) (show SR _ _ _ _ a W from h0) ⟨?_, trivial⟩ ?_
  · intro a w hI
    have hI : SR _ _ _ _ a w := hI
    have hw : w = W := hI.wp
    subst hw
    go_simp
    exact hI.put (d := 15) (by decide) (by simp)
  · intro a w hI
    have hI : SR _ _ _ _ a w := hI
    have hw : w = W := hI.wp
    subst hw
    exact hQ a hI
set_option maxRecDepth 100000 in
set_option maxHeartbeats 4000000 in
theorem v19 (n : Nat) (W : World) (B r r2 r3 N i : Nat)  (Q : Exit → Act → World → Prop) (a : Act) (h0 : SR [(1, .pointer (some ⟨B, 0, none⟩)), (3, .slice (some ⟨r, 0, none⟩) N N), (11, .slice (some ⟨r2, 0, none⟩) N N), (13, .slice (some ⟨r3, 0, none⟩) N N), (15, .int .i64 i)] 218 [] W a W)
    (hQ : ∀ a, SR [(1, .pointer (some ⟨B, 0, none⟩)), (3, .slice (some ⟨r, 0, none⟩) N N), (11, .slice (some ⟨r2, 0, none⟩) N N), (13, .slice (some ⟨r3, 0, none⟩) N N), (15, .int .i64 i), (152, .bool (decide (i < N)))] 218 [] (W) a (W) → Q .normal a (W)) : (regOf 19 C9).wpIn Fence.wide n Try.prog Q a W := by
  simp only [regOf, C9, Try.f9, Option.getD, Nat.reduceBEq, Bool.false_eq_true, if_true, if_false]
  refine region_sq (fun k_ a w => match k_ with | 0 => SR [(1, .pointer (some ⟨B, 0, none⟩)), (3, .slice (some ⟨r, 0, none⟩) N N), (11, .slice (some ⟨r2, 0, none⟩) N N), (13, .slice (some ⟨r3, 0, none⟩) N N), (15, .int .i64 i)] 218 [] (W) a w | 1 => SR [(1, .pointer (some ⟨B, 0, none⟩)), (3, .slice (some ⟨r, 0, none⟩) N N), (11, .slice (some ⟨r2, 0, none⟩) N N), (13, .slice (some ⟨r3, 0, none⟩) N N), (15, .int .i64 i), (149, .int .i64 i)] 218 [] (W) a w | 2 => SR [(1, .pointer (some ⟨B, 0, none⟩)), (3, .slice (some ⟨r, 0, none⟩) N N), (11, .slice (some ⟨r2, 0, none⟩) N N), (13, .slice (some ⟨r3, 0, none⟩) N N), (15, .int .i64 i), (149, .int .i64 i), (150, .slice (some ⟨r, 0, none⟩) N N)] 218 [] (W) a w | 3 => SR [(1, .pointer (some ⟨B, 0, none⟩)), (3, .slice (some ⟨r, 0, none⟩) N N), (11, .slice (some ⟨r2, 0, none⟩) N N), (13, .slice (some ⟨r3, 0, none⟩) N N), (15, .int .i64 i), (149, .int .i64 i), (151, .int .i64 N)] 218 [] (W) a w | _ => SR [(1, .pointer (some ⟨B, 0, none⟩)), (3, .slice (some ⟨r, 0, none⟩) N N), (11, .slice (some ⟨r2, 0, none⟩) N N), (13, .slice (some ⟨r3, 0, none⟩) N N), (15, .int .i64 i), (152, .bool (decide (i < N)))] 218 [] (W) a w) (show SR _ _ _ _ a W from h0) ⟨?_, ?_, ?_, ?_, trivial⟩ ?_
  · intro a w hI
    have hI : SR _ _ _ _ a w := hI
    have e15 := hI.g 15 rfl
    have hw : w = W := hI.wp
    subst hw
    go_simp
    exact hI.put (d := 149) (by decide) (by simp)
  · intro a w hI
    have hI : SR _ _ _ _ a w := hI
    have e3 := hI.g 3 rfl
    have hw : w = W := hI.wp
    subst hw
    go_simp
    exact hI.put (d := 150) (by decide) (by simp)
  · intro a w hI
    have hI : SR _ _ _ _ a w := hI
    have e150 := hI.g 150 rfl
    have hw : w = W := hI.wp
    subst hw
    go_simp
    exact hI.put (d := 151) (by decide) (by simp)
  · intro a w hI
    have hI : SR _ _ _ _ a w := hI
    have e149 := hI.g 149 rfl
    have e151 := hI.g 151 rfl
    have hw : w = W := hI.wp
    subst hw
    go_simp
    exact hI.put (d := 152) (by decide) (by simp)
  · intro a w hI
    have hI : SR _ _ _ _ a w := hI
    have hw : w = W := hI.wp
    subst hw
    exact hQ a hI
set_option maxRecDepth 100000 in
set_option maxHeartbeats 4000000 in
theorem v20 (n : Nat) (W : World) (B r r2 r3 N i : Nat) (hi : i < 9000000000) (Q : Exit → Act → World → Prop) (a : Act) (h0 : SR [(1, .pointer (some ⟨B, 0, none⟩)), (3, .slice (some ⟨r, 0, none⟩) N N), (11, .slice (some ⟨r2, 0, none⟩) N N), (13, .slice (some ⟨r3, 0, none⟩) N N), (15, .int .i64 i)] 218 [] W a W)
    (hQ : ∀ a, SR [(1, .pointer (some ⟨B, 0, none⟩)), (3, .slice (some ⟨r, 0, none⟩) N N), (11, .slice (some ⟨r2, 0, none⟩) N N), (13, .slice (some ⟨r3, 0, none⟩) N N), (15, .int .i64 ((i : Int) + 1))] 218 [] (W) a (W) → Q .normal a (W)) : (regOf 20 C9).wpIn Fence.wide n Try.prog Q a W := by
  simp only [regOf, C9, Try.f9, Option.getD, Nat.reduceBEq, Bool.false_eq_true, if_true, if_false]
  refine region_sq (fun k_ a w => match k_ with | 0 => SR [(1, .pointer (some ⟨B, 0, none⟩)), (3, .slice (some ⟨r, 0, none⟩) N N), (11, .slice (some ⟨r2, 0, none⟩) N N), (13, .slice (some ⟨r3, 0, none⟩) N N), (15, .int .i64 i)] 218 [] (W) a w | 1 => SR [(1, .pointer (some ⟨B, 0, none⟩)), (3, .slice (some ⟨r, 0, none⟩) N N), (11, .slice (some ⟨r2, 0, none⟩) N N), (13, .slice (some ⟨r3, 0, none⟩) N N), (153, .int .i64 i)] 218 [] (W) a w | 2 => SR [(1, .pointer (some ⟨B, 0, none⟩)), (3, .slice (some ⟨r, 0, none⟩) N N), (11, .slice (some ⟨r2, 0, none⟩) N N), (13, .slice (some ⟨r3, 0, none⟩) N N), (154, .int .i64 ((i : Int) + 1))] 218 [] (W) a w | _ => SR [(1, .pointer (some ⟨B, 0, none⟩)), (3, .slice (some ⟨r, 0, none⟩) N N), (11, .slice (some ⟨r2, 0, none⟩) N N), (13, .slice (some ⟨r3, 0, none⟩) N N), (15, .int .i64 ((i : Int) + 1))] 218 [] (W) a w) (show SR _ _ _ _ a W from h0) ⟨?_, ?_, ?_, trivial⟩ ?_
  · intro a w hI
    have hI : SR _ _ _ _ a w := hI
    have e15 := hI.g 15 rfl
    have hw : w = W := hI.wp
    subst hw
    go_simp
    exact hI.put (d := 153) (by decide) (by simp)
  · intro a w hI
    have hI : SR _ _ _ _ a w := hI
    have e153 := hI.g 153 rfl
    have hw : w = W := hI.wp
    subst hw
    have hw1 : IntKind.i64.wrap ((i : Int) + 1) = (i : Int) + 1 := IntWalk.i64_in _ (by omega)
    go_simp
    exact hI.put (d := 154) (by decide) (by simp)
  · intro a w hI
    have hI : SR _ _ _ _ a w := hI
    have e154 := hI.g 154 rfl
    have hw : w = W := hI.wp
    subst hw
    go_simp
    exact hI.put (d := 15) (by decide) (by simp)
  · intro a w hI
    have hI : SR _ _ _ _ a w := hI
    have hw : w = W := hI.wp
    subst hw
    exact hQ a hI
set_option maxRecDepth 100000 in
set_option maxHeartbeats 4000000 in
theorem v21 (n : Nat) {G : World → Prop} (hS : Stable G) (B r r2 r3 N i : Nat) (X Z : Nat) (d1 : ¬ X = 0) (d2 : ¬ Z = 0) (x q z y : Nat) (hx : Int.tmod (i : Int) X = (x : Int)) (hq : IntKind.i64.wrap ((i : Int) / X) = (q : Int)) (hz : Int.tmod (q : Int) Z = (z : Int)) (hy : IntKind.i64.wrap ((q : Int) / Z) = (y : Int)) (c0 : ∀ w, G w → w.cell? ⟨B, 0, none⟩ = some (.int .i64 X)) (c2_ : ∀ w, G w → w.cell? ⟨B, 2, none⟩ = some (.int .i64 Z)) (Q : Exit → Act → World → Prop) (a : Act) (w : World) (h0 : SG [(1, .pointer (some ⟨B, 0, none⟩)), (3, .slice (some ⟨r, 0, none⟩) N N), (11, .slice (some ⟨r2, 0, none⟩) N N), (13, .slice (some ⟨r3, 0, none⟩) N N), (15, .int .i64 i)] 218 G a w)
    (hQ : ∀ a w, SG [(1, .pointer (some ⟨B, 0, none⟩)), (3, .slice (some ⟨r, 0, none⟩) N N), (11, .slice (some ⟨r2, 0, none⟩) N N), (13, .slice (some ⟨r3, 0, none⟩) N N), (15, .int .i64 i), (16, .int .i64 x), (17, .int .i64 z), (18, .int .i64 y)] 218 G a w → Q .normal a w) : (regOf 21 C9).wpIn Fence.wide n Try.prog Q a w := by
  have hmix : Try.prog.follows .mixedOrders = true := by kernel_rfl
  simp only [regOf, C9, Try.f9, Option.getD, Nat.reduceBEq, Bool.false_eq_true, if_true, if_false]
  refine region_inv (RI [(1, .pointer (some ⟨B, 0, none⟩)), (3, .slice (some ⟨r, 0, none⟩) N N), (11, .slice (some ⟨r2, 0, none⟩) N N), (13, .slice (some ⟨r3, 0, none⟩) N N), (15, .int .i64 i)]
    [(0, 155, .int .i64 i), (1, 156, .pointer (some ⟨B, 0, none⟩)), (2, 157, .int .i64 X), (3, 158, .int .i64 x), (4, 159, .int .i64 i), (5, 160, .pointer (some ⟨B, 0, none⟩)), (6, 161, .int .i64 X), (7, 162, .int .i64 q), (8, 163, .pointer (some ⟨B, 2, none⟩)), (9, 164, .int .i64 Z), (10, 165, .int .i64 z), (11, 166, .int .i64 i), (12, 167, .pointer (some ⟨B, 0, none⟩)), (13, 168, .int .i64 X), (14, 169, .int .i64 q), (15, 170, .pointer (some ⟨B, 2, none⟩)), (16, 171, .int .i64 Z), (17, 172, .int .i64 y), (18, 16, .int .i64 x), (19, 17, .int .i64 z), (20, 18, .int .i64 y)] 218 [] (fun _ w => G w)) hmix (by kernel_rfl) ⟨h0.size, h0.defers, h0.kn, by simp, hS _ _ h0.wp (Below.refl _ _).drew⟩ ⟨?_, ?_, ?_, ?_, ?_, ?_, ?_, ?_, ?_, ?_, ?_, ?_, ?_, ?_, ?_, ?_, ?_, ?_, ?_, ?_, ?_, trivial⟩ ?_
  · intro Xs a w hX hdep hC hI
    have e15 := hI.gi 15 rfl
    go_simp
    exact hI.put' (k := 0) (d := 155) (by decide) (by simp) (by simp) (by simp) hI.wp
  · intro Xs a w hX hdep hC hI
    have e1 := hI.gi 1 rfl
    go_simp
    exact hI.put' (k := 1) (d := 156) (by decide) (by simp) (by simp) (by simp) hI.wp
  · intro Xs a w hX hdep hC hI
    have x1 : Xs 1 = true := hdep ⟨1, .data⟩ (by simp) rfl
    have e156 := hI.gk 1 rfl x1
    have cc0 := c0 w hI.wp
    go_simp
    exact hI.put' (k := 2) (d := 157) (by decide) (by simp) (by simp) (by simp) hI.wp
  · intro Xs a w hX hdep hC hI
    have x0 : Xs 0 = true := hdep ⟨0, .data⟩ (by simp) rfl
    have e155 := hI.gk 0 rfl x0
    have x2 : Xs 2 = true := hdep ⟨2, .data⟩ (by simp) rfl
    have e157 := hI.gk 2 rfl x2
    go_simp
    exact hI.put' (k := 3) (d := 158) (by decide) (by simp) (by simp) (by simp) hI.wp
  · intro Xs a w hX hdep hC hI
    have e15 := hI.gi 15 rfl
    go_simp
    exact hI.put' (k := 4) (d := 159) (by decide) (by simp) (by simp) (by simp) hI.wp
  · intro Xs a w hX hdep hC hI
    have e1 := hI.gi 1 rfl
    go_simp
    exact hI.put' (k := 5) (d := 160) (by decide) (by simp) (by simp) (by simp) hI.wp
  · intro Xs a w hX hdep hC hI
    have x5 : Xs 5 = true := hdep ⟨5, .data⟩ (by simp) rfl
    have e160 := hI.gk 5 rfl x5
    have cc0 := c0 w hI.wp
    go_simp
    exact hI.put' (k := 6) (d := 161) (by decide) (by simp) (by simp) (by simp) hI.wp
  · intro Xs a w hX hdep hC hI
    have x4 : Xs 4 = true := hdep ⟨4, .data⟩ (by simp) rfl
    have e159 := hI.gk 4 rfl x4
    have x6 : Xs 6 = true := hdep ⟨6, .data⟩ (by simp) rfl
    have e161 := hI.gk 6 rfl x6
    go_simp
    exact hI.put' (k := 7) (d := 162) (by decide) (by simp) (by simp) (by simp) hI.wp
  · intro Xs a w hX hdep hC hI
    have e1 := hI.gi 1 rfl
    go_simp
    exact hI.put' (k := 8) (d := 163) (by decide) (by simp) (by simp) (by simp) hI.wp
  · intro Xs a w hX hdep hC hI
    have x8 : Xs 8 = true := hdep ⟨8, .data⟩ (by simp) rfl
    have e163 := hI.gk 8 rfl x8
    have cc0 := c2_ w hI.wp
    go_simp
    exact hI.put' (k := 9) (d := 164) (by decide) (by simp) (by simp) (by simp) hI.wp
  · intro Xs a w hX hdep hC hI
    have x7 : Xs 7 = true := hdep ⟨7, .data⟩ (by simp) rfl
    have e162 := hI.gk 7 rfl x7
    have x9 : Xs 9 = true := hdep ⟨9, .data⟩ (by simp) rfl
    have e164 := hI.gk 9 rfl x9
    go_simp
    exact hI.put' (k := 10) (d := 165) (by decide) (by simp) (by simp) (by simp) hI.wp
  · intro Xs a w hX hdep hC hI
    have e15 := hI.gi 15 rfl
    go_simp
    exact hI.put' (k := 11) (d := 166) (by decide) (by simp) (by simp) (by simp) hI.wp
  · intro Xs a w hX hdep hC hI
    have e1 := hI.gi 1 rfl
    go_simp
    exact hI.put' (k := 12) (d := 167) (by decide) (by simp) (by simp) (by simp) hI.wp
  · intro Xs a w hX hdep hC hI
    have x12 : Xs 12 = true := hdep ⟨12, .data⟩ (by simp) rfl
    have e167 := hI.gk 12 rfl x12
    have cc0 := c0 w hI.wp
    go_simp
    exact hI.put' (k := 13) (d := 168) (by decide) (by simp) (by simp) (by simp) hI.wp
  · intro Xs a w hX hdep hC hI
    have x11 : Xs 11 = true := hdep ⟨11, .data⟩ (by simp) rfl
    have e166 := hI.gk 11 rfl x11
    have x13 : Xs 13 = true := hdep ⟨13, .data⟩ (by simp) rfl
    have e168 := hI.gk 13 rfl x13
    go_simp
    exact hI.put' (k := 14) (d := 169) (by decide) (by simp) (by simp) (by simp) hI.wp
  · intro Xs a w hX hdep hC hI
    have e1 := hI.gi 1 rfl
    go_simp
    exact hI.put' (k := 15) (d := 170) (by decide) (by simp) (by simp) (by simp) hI.wp
  · intro Xs a w hX hdep hC hI
    have x15 : Xs 15 = true := hdep ⟨15, .data⟩ (by simp) rfl
    have e170 := hI.gk 15 rfl x15
    have cc0 := c2_ w hI.wp
    go_simp
    exact hI.put' (k := 16) (d := 171) (by decide) (by simp) (by simp) (by simp) hI.wp
  · intro Xs a w hX hdep hC hI
    have x14 : Xs 14 = true := hdep ⟨14, .data⟩ (by simp) rfl
    have e169 := hI.gk 14 rfl x14
    have x16 : Xs 16 = true := hdep ⟨16, .data⟩ (by simp) rfl
    have e171 := hI.gk 16 rfl x16
    go_simp
    exact hI.put' (k := 17) (d := 172) (by decide) (by simp) (by simp) (by simp) hI.wp
  · intro Xs a w hX hdep hC hI
    have x3 : Xs 3 = true := hdep ⟨3, .data⟩ (by simp) rfl
    have e158 := hI.gk 3 rfl x3
    go_simp
    exact hI.put' (k := 18) (d := 16) (by decide) (by simp) (by simp) (by simp) hI.wp
  · intro Xs a w hX hdep hC hI
    have x10 : Xs 10 = true := hdep ⟨10, .data⟩ (by simp) rfl
    have e165 := hI.gk 10 rfl x10
    go_simp
    exact hI.put' (k := 19) (d := 17) (by decide) (by simp) (by simp) (by simp) hI.wp
  · intro Xs a w hX hdep hC hI
    have x17 : Xs 17 = true := hdep ⟨17, .data⟩ (by simp) rfl
    have e172 := hI.gk 17 rfl x17
    go_simp
    exact hI.put' (k := 20) (d := 18) (by decide) (by simp) (by simp) (by simp) hI.wp
  · intro Xs a w hX hI
    refine hQ a w ⟨hI.size, hI.defers, ?_, hI.wp⟩
    simp only [List.mem_cons, List.not_mem_nil, or_false, forall_eq_or_imp, forall_eq]
    exact ⟨hI.gi 1 rfl, hI.gi 3 rfl, hI.gi 11 rfl, hI.gi 13 rfl, hI.gi 15 rfl, hI.gk 18 rfl (hX 18 (by simp)), hI.gk 19 rfl (hX 19 (by simp)), hI.gk 20 rfl (hX 20 (by simp))⟩
set_option maxRecDepth 100000 in
set_option maxHeartbeats 4000000 in
theorem v22 (n : Nat) {G : World → Prop} (hS : Stable G) (B r r2 r3 N i : Nat) (X Z x z y : Nat) (p1 p2 p3 p4 p5 s : Nat) (h1 : IntKind.i64.wrap ((y : Int) * Z) = (p1 : Int)) (h2 : IntKind.i64.wrap ((p1 : Int) + z) = (p2 : Int)) (h3 : IntKind.i64.wrap ((p2 : Int) * X) = (p3 : Int)) (h4 : IntKind.i64.wrap ((p3 : Int) + X) = (p4 : Int)) (h5 : IntKind.i64.wrap ((p4 : Int) - 1) = (p5 : Int)) (h6 : IntKind.i64.wrap ((p5 : Int) - x) = (s : Int)) (hs : s < N) (t1 t2 t3 t : Nat) (k1 : IntKind.i64.wrap ((y : Int) * X) = (t1 : Int)) (k2 : IntKind.i64.wrap ((t1 : Int) + x) = (t2 : Int)) (k3 : IntKind.i64.wrap ((t2 : Int) * Z) = (t3 : Int)) (k4 : IntKind.i64.wrap ((t3 : Int) + z) = (t : Int)) (ht : t < N) (sk la : Nat) (hi : i < N) (c2_ : ∀ w, G w → w.cell? ⟨B, 2, none⟩ = some (.int .i64 Z)) (c0 : ∀ w, G w → w.cell? ⟨B, 0, none⟩ = some (.int .i64 X)) (lb0 : ∀ w, G w → w.cell? ⟨r2, s * 2, none⟩ = some (.int .u8 sk)) (lb1 : ∀ w, G w → w.cell? ⟨r2, s * 2 + 1, none⟩ = some (.int .u8 la)) (la0 : ∀ w, G w → w.cell? ⟨r, i * 2, none⟩ = some (.int .u8 sk)) (la1 : ∀ w, G w → w.cell? ⟨r, i * 2 + 1, none⟩ = some (.int .u8 la)) (lc0 : ∀ w, G w → w.cell? ⟨r3, t * 2, none⟩ = some (.int .u8 sk)) (lc1 : ∀ w, G w → w.cell? ⟨r3, t * 2 + 1, none⟩ = some (.int .u8 la)) (Q : Exit → Act → World → Prop) (a : Act) (w : World) (h0 : SG [(1, .pointer (some ⟨B, 0, none⟩)), (3, .slice (some ⟨r, 0, none⟩) N N), (11, .slice (some ⟨r2, 0, none⟩) N N), (13, .slice (some ⟨r3, 0, none⟩) N N), (15, .int .i64 i), (16, .int .i64 x), (17, .int .i64 z), (18, .int .i64 y)] 218 G a w)
    (hQ : ∀ a w, SG [(1, .pointer (some ⟨B, 0, none⟩)), (3, .slice (some ⟨r, 0, none⟩) N N), (11, .slice (some ⟨r2, 0, none⟩) N N), (13, .slice (some ⟨r3, 0, none⟩) N N), (15, .int .i64 i), (216, .bool false)] 218 G a w → Q .normal a w) : (regOf 22 C9).wpIn Fence.wide n Try.prog Q a w := by
  have hmix : Try.prog.follows .mixedOrders = true := by kernel_rfl
  simp only [regOf, C9, Try.f9, Option.getD, Nat.reduceBEq, Bool.false_eq_true, if_true, if_false]
  refine region_inv (RI [(1, .pointer (some ⟨B, 0, none⟩)), (3, .slice (some ⟨r, 0, none⟩) N N), (11, .slice (some ⟨r2, 0, none⟩) N N), (13, .slice (some ⟨r3, 0, none⟩) N N), (15, .int .i64 i), (16, .int .i64 x), (17, .int .i64 z), (18, .int .i64 y)]
    [(0, 173, .slice (some ⟨r2, 0, none⟩) N N), (1, 174, .int .i64 y), (2, 175, .pointer (some ⟨B, 2, none⟩)), (3, 176, .int .i64 Z), (4, 177, .int .i64 p1), (5, 178, .int .i64 z), (6, 179, .int .i64 p2), (7, 180, .pointer (some ⟨B, 0, none⟩)), (8, 181, .int .i64 X), (9, 182, .int .i64 p3), (10, 183, .pointer (some ⟨B, 0, none⟩)), (11, 184, .int .i64 X), (12, 185, .int .i64 p4), (13, 186, .int .i64 p5), (14, 187, .int .i64 x), (15, 188, .int .i64 s), (16, 189, .pointer (some ⟨r2, s * 2, none⟩)), (17, 190, .agg #[.int .u8 sk, .int .u8 la]), (18, 191, .slice (some ⟨r, 0, none⟩) N N), (19, 192, .int .i64 i), (20, 193, .pointer (some ⟨r, i * 2, none⟩)), (21, 194, .agg #[.int .u8 sk, .int .u8 la]), (22, 195, .bool false), (23, 196, .bool false), (24, 197, .slice (some ⟨r3, 0, none⟩) N N), (25, 198, .int .i64 y), (26, 199, .pointer (some ⟨B, 0, none⟩)), (27, 200, .int .i64 X), (28, 201, .int .i64 t1), (29, 202, .int .i64 x), (30, 203, .int .i64 t2), (31, 204, .pointer (some ⟨B, 2, none⟩)), (32, 205, .int .i64 Z), (33, 206, .int .i64 t3), (34, 207, .int .i64 z), (35, 208, .int .i64 t), (36, 209, .pointer (some ⟨r3, t * 2, none⟩)), (37, 210, .agg #[.int .u8 sk, .int .u8 la]), (38, 211, .slice (some ⟨r, 0, none⟩) N N), (39, 212, .int .i64 i), (40, 213, .pointer (some ⟨r, i * 2, none⟩)), (41, 214, .agg #[.int .u8 sk, .int .u8 la]), (42, 215, .bool false), (43, 216, .bool false)] 218 [] (fun _ w => G w)) hmix (by kernel_rfl) ⟨h0.size, h0.defers, h0.kn, by simp, hS _ _ h0.wp (Below.refl _ _).drew⟩ ⟨?_, ?_, ?_, ?_, ?_, ?_, ?_, ?_, ?_, ?_, ?_, ?_, ?_, ?_, ?_, ?_, ?_, ?_, ?_, ?_, ?_, ?_, ?_, ?_, ?_, ?_, ?_, ?_, ?_, ?_, ?_, ?_, ?_, ?_, ?_, ?_, ?_, ?_, ?_, ?_, ?_, ?_, ?_, ?_, trivial⟩ ?_
  · intro Xs a w hX hdep hC hI
    have e11 := hI.gi 11 rfl
    go_simp
    exact hI.put' (k := 0) (d := 173) (by decide) (by simp) (by simp) (by simp) hI.wp
  · intro Xs a w hX hdep hC hI
    have e18 := hI.gi 18 rfl
    go_simp
    exact hI.put' (k := 1) (d := 174) (by decide) (by simp) (by simp) (by simp) hI.wp
  · intro Xs a w hX hdep hC hI
    have e1 := hI.gi 1 rfl
    go_simp
    exact hI.put' (k := 2) (d := 175) (by decide) (by simp) (by simp) (by simp) hI.wp
  · intro Xs a w hX hdep hC hI
    have x2 : Xs 2 = true := hdep ⟨2, .data⟩ (by simp) rfl
    have e175 := hI.gk 2 rfl x2
    have cc0 := c2_ w hI.wp
    go_simp
    exact hI.put' (k := 3) (d := 176) (by decide) (by simp) (by simp) (by simp) hI.wp
  · intro Xs a w hX hdep hC hI
    have x1 : Xs 1 = true := hdep ⟨1, .data⟩ (by simp) rfl
    have e174 := hI.gk 1 rfl x1
    have x3 : Xs 3 = true := hdep ⟨3, .data⟩ (by simp) rfl
    have e176 := hI.gk 3 rfl x3
    go_simp
    exact hI.put' (k := 4) (d := 177) (by decide) (by simp) (by simp) (by simp) hI.wp
  · intro Xs a w hX hdep hC hI
    have e17 := hI.gi 17 rfl
    go_simp
    exact hI.put' (k := 5) (d := 178) (by decide) (by simp) (by simp) (by simp) hI.wp
  · intro Xs a w hX hdep hC hI
    have x4 : Xs 4 = true := hdep ⟨4, .data⟩ (by simp) rfl
    have e177 := hI.gk 4 rfl x4
    have x5 : Xs 5 = true := hdep ⟨5, .data⟩ (by simp) rfl
    have e178 := hI.gk 5 rfl x5
    go_simp
    exact hI.put' (k := 6) (d := 179) (by decide) (by simp) (by simp) (by simp) hI.wp
  · intro Xs a w hX hdep hC hI
    have e1 := hI.gi 1 rfl
    go_simp
    exact hI.put' (k := 7) (d := 180) (by decide) (by simp) (by simp) (by simp) hI.wp
  · intro Xs a w hX hdep hC hI
    have x7 : Xs 7 = true := hdep ⟨7, .data⟩ (by simp) rfl
    have e180 := hI.gk 7 rfl x7
    have cc0 := c0 w hI.wp
    go_simp
    exact hI.put' (k := 8) (d := 181) (by decide) (by simp) (by simp) (by simp) hI.wp
  · intro Xs a w hX hdep hC hI
    have x6 : Xs 6 = true := hdep ⟨6, .data⟩ (by simp) rfl
    have e179 := hI.gk 6 rfl x6
    have x8 : Xs 8 = true := hdep ⟨8, .data⟩ (by simp) rfl
    have e181 := hI.gk 8 rfl x8
    go_simp
    exact hI.put' (k := 9) (d := 182) (by decide) (by simp) (by simp) (by simp) hI.wp
  · intro Xs a w hX hdep hC hI
    have e1 := hI.gi 1 rfl
    go_simp
    exact hI.put' (k := 10) (d := 183) (by decide) (by simp) (by simp) (by simp) hI.wp
  · intro Xs a w hX hdep hC hI
    have x10 : Xs 10 = true := hdep ⟨10, .data⟩ (by simp) rfl
    have e183 := hI.gk 10 rfl x10
    have cc0 := c0 w hI.wp
    go_simp
    exact hI.put' (k := 11) (d := 184) (by decide) (by simp) (by simp) (by simp) hI.wp
  · intro Xs a w hX hdep hC hI
    have x9 : Xs 9 = true := hdep ⟨9, .data⟩ (by simp) rfl
    have e182 := hI.gk 9 rfl x9
    have x11 : Xs 11 = true := hdep ⟨11, .data⟩ (by simp) rfl
    have e184 := hI.gk 11 rfl x11
    go_simp
    exact hI.put' (k := 12) (d := 185) (by decide) (by simp) (by simp) (by simp) hI.wp
  · intro Xs a w hX hdep hC hI
    have x12 : Xs 12 = true := hdep ⟨12, .data⟩ (by simp) rfl
    have e185 := hI.gk 12 rfl x12
    go_simp
    exact hI.put' (k := 13) (d := 186) (by decide) (by simp) (by simp) (by simp) hI.wp
  · intro Xs a w hX hdep hC hI
    have e16 := hI.gi 16 rfl
    go_simp
    exact hI.put' (k := 14) (d := 187) (by decide) (by simp) (by simp) (by simp) hI.wp
  · intro Xs a w hX hdep hC hI
    have x13 : Xs 13 = true := hdep ⟨13, .data⟩ (by simp) rfl
    have e186 := hI.gk 13 rfl x13
    have x14 : Xs 14 = true := hdep ⟨14, .data⟩ (by simp) rfl
    have e187 := hI.gk 14 rfl x14
    go_simp
    exact hI.put' (k := 15) (d := 188) (by decide) (by simp) (by simp) (by simp) hI.wp
  · intro Xs a w hX hdep hC hI
    have x0 : Xs 0 = true := hdep ⟨0, .data⟩ (by simp) rfl
    have e173 := hI.gk 0 rfl x0
    have x15 : Xs 15 = true := hdep ⟨15, .data⟩ (by simp) rfl
    have e188 := hI.gk 15 rfl x15
    have q1_16 : (0 : Int) ≤ s := by omega
    have q2_16 : (s : Int) < N := by omega
    go_simp
    exact hI.put' (k := 16) (d := 189) (by decide) (by simp) (by simp) (by simp) hI.wp
  · intro Xs a w hX hdep hC hI
    have x16 : Xs 16 = true := hdep ⟨16, .data⟩ (by simp) rfl
    have e189 := hI.gk 16 rfl x16
    have cc0 := lb0 w hI.wp
    have cc1 := lb1 w hI.wp
    go_simp
    exact hI.put' (k := 17) (d := 190) (by decide) (by simp) (by simp) (by simp) hI.wp
  · intro Xs a w hX hdep hC hI
    have e3 := hI.gi 3 rfl
    go_simp
    exact hI.put' (k := 18) (d := 191) (by decide) (by simp) (by simp) (by simp) hI.wp
  · intro Xs a w hX hdep hC hI
    have e15 := hI.gi 15 rfl
    go_simp
    exact hI.put' (k := 19) (d := 192) (by decide) (by simp) (by simp) (by simp) hI.wp
  · intro Xs a w hX hdep hC hI
    have x18 : Xs 18 = true := hdep ⟨18, .data⟩ (by simp) rfl
    have e191 := hI.gk 18 rfl x18
    have x19 : Xs 19 = true := hdep ⟨19, .data⟩ (by simp) rfl
    have e192 := hI.gk 19 rfl x19
    have q1_20 : (0 : Int) ≤ i := by omega
    have q2_20 : (i : Int) < N := by omega
    go_simp
    exact hI.put' (k := 20) (d := 193) (by decide) (by simp) (by simp) (by simp) hI.wp
  · intro Xs a w hX hdep hC hI
    have x20 : Xs 20 = true := hdep ⟨20, .data⟩ (by simp) rfl
    have e193 := hI.gk 20 rfl x20
    have cc0 := la0 w hI.wp
    have cc1 := la1 w hI.wp
    go_simp
    exact hI.put' (k := 21) (d := 194) (by decide) (by simp) (by simp) (by simp) hI.wp
  · intro Xs a w hX hdep hC hI
    have x17 : Xs 17 = true := hdep ⟨17, .data⟩ (by simp) rfl
    have e190 := hI.gk 17 rfl x17
    have x21 : Xs 21 = true := hdep ⟨21, .data⟩ (by simp) rfl
    have e194 := hI.gk 21 rfl x21
    go_simp
    exact hI.put' (k := 22) (d := 195) (by decide) (by simp) (by simp) (by simp) hI.wp
  · intro Xs a w hX hdep hC hI
    have x22 : Xs 22 = true := hdep ⟨22, .data⟩ (by simp) rfl
    have e195 := hI.gk 22 rfl x22
    go_simp
    exact hI.put' (k := 23) (d := 196) (by decide) (by simp) (by simp) (by simp) hI.wp
  · intro Xs a w hX hdep hC hI
    have e13 := hI.gi 13 rfl
    have x23 : Xs 23 = true := hdep ⟨23, .guard⟩ (by simp) rfl
    have e196 := hI.gk 23 rfl x23
    have f196 := slot_bool e196
    go_simp
    exact hI.put' (k := 24) (d := 197) (by decide) (by simp) (by simp) (by simp) hI.wp
  · intro Xs a w hX hdep hC hI
    have e18 := hI.gi 18 rfl
    have x23 : Xs 23 = true := hdep ⟨23, .guard⟩ (by simp) rfl
    have e196 := hI.gk 23 rfl x23
    have f196 := slot_bool e196
    go_simp
    exact hI.put' (k := 25) (d := 198) (by decide) (by simp) (by simp) (by simp) hI.wp
  · intro Xs a w hX hdep hC hI
    have e1 := hI.gi 1 rfl
    have x23 : Xs 23 = true := hdep ⟨23, .guard⟩ (by simp) rfl
    have e196 := hI.gk 23 rfl x23
    have f196 := slot_bool e196
    go_simp
    exact hI.put' (k := 26) (d := 199) (by decide) (by simp) (by simp) (by simp) hI.wp
  · intro Xs a w hX hdep hC hI
    have x26 : Xs 26 = true := hdep ⟨26, .data⟩ (by simp) rfl
    have e199 := hI.gk 26 rfl x26
    have x23 : Xs 23 = true := hdep ⟨23, .guard⟩ (by simp) rfl
    have e196 := hI.gk 23 rfl x23
    have f196 := slot_bool e196
    have cc0 := c0 w hI.wp
    go_simp
    exact hI.put' (k := 27) (d := 200) (by decide) (by simp) (by simp) (by simp) hI.wp
  · intro Xs a w hX hdep hC hI
    have x25 : Xs 25 = true := hdep ⟨25, .data⟩ (by simp) rfl
    have e198 := hI.gk 25 rfl x25
    have x27 : Xs 27 = true := hdep ⟨27, .data⟩ (by simp) rfl
    have e200 := hI.gk 27 rfl x27
    have x23 : Xs 23 = true := hdep ⟨23, .guard⟩ (by simp) rfl
    have e196 := hI.gk 23 rfl x23
    have f196 := slot_bool e196
    go_simp
    exact hI.put' (k := 28) (d := 201) (by decide) (by simp) (by simp) (by simp) hI.wp
  · intro Xs a w hX hdep hC hI
    have e16 := hI.gi 16 rfl
    have x23 : Xs 23 = true := hdep ⟨23, .guard⟩ (by simp) rfl
    have e196 := hI.gk 23 rfl x23
    have f196 := slot_bool e196
    go_simp
    exact hI.put' (k := 29) (d := 202) (by decide) (by simp) (by simp) (by simp) hI.wp
  · intro Xs a w hX hdep hC hI
    have x28 : Xs 28 = true := hdep ⟨28, .data⟩ (by simp) rfl
    have e201 := hI.gk 28 rfl x28
    have x29 : Xs 29 = true := hdep ⟨29, .data⟩ (by simp) rfl
    have e202 := hI.gk 29 rfl x29
    have x23 : Xs 23 = true := hdep ⟨23, .guard⟩ (by simp) rfl
    have e196 := hI.gk 23 rfl x23
    have f196 := slot_bool e196
    go_simp
    exact hI.put' (k := 30) (d := 203) (by decide) (by simp) (by simp) (by simp) hI.wp
  · intro Xs a w hX hdep hC hI
    have e1 := hI.gi 1 rfl
    have x23 : Xs 23 = true := hdep ⟨23, .guard⟩ (by simp) rfl
    have e196 := hI.gk 23 rfl x23
    have f196 := slot_bool e196
    go_simp
    exact hI.put' (k := 31) (d := 204) (by decide) (by simp) (by simp) (by simp) hI.wp
  · intro Xs a w hX hdep hC hI
    have x31 : Xs 31 = true := hdep ⟨31, .data⟩ (by simp) rfl
    have e204 := hI.gk 31 rfl x31
    have x23 : Xs 23 = true := hdep ⟨23, .guard⟩ (by simp) rfl
    have e196 := hI.gk 23 rfl x23
    have f196 := slot_bool e196
    have cc0 := c2_ w hI.wp
    go_simp
    exact hI.put' (k := 32) (d := 205) (by decide) (by simp) (by simp) (by simp) hI.wp
  · intro Xs a w hX hdep hC hI
    have x30 : Xs 30 = true := hdep ⟨30, .data⟩ (by simp) rfl
    have e203 := hI.gk 30 rfl x30
    have x32 : Xs 32 = true := hdep ⟨32, .data⟩ (by simp) rfl
    have e205 := hI.gk 32 rfl x32
    have x23 : Xs 23 = true := hdep ⟨23, .guard⟩ (by simp) rfl
    have e196 := hI.gk 23 rfl x23
    have f196 := slot_bool e196
    go_simp
    exact hI.put' (k := 33) (d := 206) (by decide) (by simp) (by simp) (by simp) hI.wp
  · intro Xs a w hX hdep hC hI
    have e17 := hI.gi 17 rfl
    have x23 : Xs 23 = true := hdep ⟨23, .guard⟩ (by simp) rfl
    have e196 := hI.gk 23 rfl x23
    have f196 := slot_bool e196
    go_simp
    exact hI.put' (k := 34) (d := 207) (by decide) (by simp) (by simp) (by simp) hI.wp
  · intro Xs a w hX hdep hC hI
    have x33 : Xs 33 = true := hdep ⟨33, .data⟩ (by simp) rfl
    have e206 := hI.gk 33 rfl x33
    have x34 : Xs 34 = true := hdep ⟨34, .data⟩ (by simp) rfl
    have e207 := hI.gk 34 rfl x34
    have x23 : Xs 23 = true := hdep ⟨23, .guard⟩ (by simp) rfl
    have e196 := hI.gk 23 rfl x23
    have f196 := slot_bool e196
    go_simp
    exact hI.put' (k := 35) (d := 208) (by decide) (by simp) (by simp) (by simp) hI.wp
  · intro Xs a w hX hdep hC hI
    have x24 : Xs 24 = true := hdep ⟨24, .data⟩ (by simp) rfl
    have e197 := hI.gk 24 rfl x24
    have x35 : Xs 35 = true := hdep ⟨35, .data⟩ (by simp) rfl
    have e208 := hI.gk 35 rfl x35
    have x23 : Xs 23 = true := hdep ⟨23, .guard⟩ (by simp) rfl
    have e196 := hI.gk 23 rfl x23
    have f196 := slot_bool e196
    have q1_36 : (0 : Int) ≤ t := by omega
    have q2_36 : (t : Int) < N := by omega
    go_simp
    exact hI.put' (k := 36) (d := 209) (by decide) (by simp) (by simp) (by simp) hI.wp
  · intro Xs a w hX hdep hC hI
    have x36 : Xs 36 = true := hdep ⟨36, .data⟩ (by simp) rfl
    have e209 := hI.gk 36 rfl x36
    have x23 : Xs 23 = true := hdep ⟨23, .guard⟩ (by simp) rfl
    have e196 := hI.gk 23 rfl x23
    have f196 := slot_bool e196
    have cc0 := lc0 w hI.wp
    have cc1 := lc1 w hI.wp
    go_simp
    exact hI.put' (k := 37) (d := 210) (by decide) (by simp) (by simp) (by simp) hI.wp
  · intro Xs a w hX hdep hC hI
    have e3 := hI.gi 3 rfl
    have x23 : Xs 23 = true := hdep ⟨23, .guard⟩ (by simp) rfl
    have e196 := hI.gk 23 rfl x23
    have f196 := slot_bool e196
    go_simp
    exact hI.put' (k := 38) (d := 211) (by decide) (by simp) (by simp) (by simp) hI.wp
  · intro Xs a w hX hdep hC hI
    have e15 := hI.gi 15 rfl
    have x23 : Xs 23 = true := hdep ⟨23, .guard⟩ (by simp) rfl
    have e196 := hI.gk 23 rfl x23
    have f196 := slot_bool e196
    go_simp
    exact hI.put' (k := 39) (d := 212) (by decide) (by simp) (by simp) (by simp) hI.wp
  · intro Xs a w hX hdep hC hI
    have x38 : Xs 38 = true := hdep ⟨38, .data⟩ (by simp) rfl
    have e211 := hI.gk 38 rfl x38
    have x39 : Xs 39 = true := hdep ⟨39, .data⟩ (by simp) rfl
    have e212 := hI.gk 39 rfl x39
    have x23 : Xs 23 = true := hdep ⟨23, .guard⟩ (by simp) rfl
    have e196 := hI.gk 23 rfl x23
    have f196 := slot_bool e196
    have q1_40 : (0 : Int) ≤ i := by omega
    have q2_40 : (i : Int) < N := by omega
    go_simp
    exact hI.put' (k := 40) (d := 213) (by decide) (by simp) (by simp) (by simp) hI.wp
  · intro Xs a w hX hdep hC hI
    have x40 : Xs 40 = true := hdep ⟨40, .data⟩ (by simp) rfl
    have e213 := hI.gk 40 rfl x40
    have x23 : Xs 23 = true := hdep ⟨23, .guard⟩ (by simp) rfl
    have e196 := hI.gk 23 rfl x23
    have f196 := slot_bool e196
    have cc0 := la0 w hI.wp
    have cc1 := la1 w hI.wp
    go_simp
    exact hI.put' (k := 41) (d := 214) (by decide) (by simp) (by simp) (by simp) hI.wp
  · intro Xs a w hX hdep hC hI
    have x37 : Xs 37 = true := hdep ⟨37, .data⟩ (by simp) rfl
    have e210 := hI.gk 37 rfl x37
    have x41 : Xs 41 = true := hdep ⟨41, .data⟩ (by simp) rfl
    have e214 := hI.gk 41 rfl x41
    have x23 : Xs 23 = true := hdep ⟨23, .guard⟩ (by simp) rfl
    have e196 := hI.gk 23 rfl x23
    have f196 := slot_bool e196
    go_simp
    exact hI.put' (k := 42) (d := 215) (by decide) (by simp) (by simp) (by simp) hI.wp
  · intro Xs a w hX hdep hC hI
    have x23 : Xs 23 = true := hdep ⟨23, .data⟩ (by simp) rfl
    have e196 := hI.gk 23 rfl x23
    have x42 : Xs 42 = true := hdep ⟨42, .data⟩ (by simp) rfl
    have e215 := hI.gk 42 rfl x42
    go_simp
    exact hI.put' (k := 43) (d := 216) (by decide) (by simp) (by simp) (by simp) hI.wp
  · intro Xs a w hX hI
    refine hQ a w ⟨hI.size, hI.defers, ?_, hI.wp⟩
    simp only [List.mem_cons, List.not_mem_nil, or_false, forall_eq_or_imp, forall_eq]
    exact ⟨hI.gi 1 rfl, hI.gi 3 rfl, hI.gi 11 rfl, hI.gi 13 rfl, hI.gi 15 rfl, hI.gk 43 rfl (hX 43 (by simp))⟩
set_option maxRecDepth 100000 in
set_option maxHeartbeats 4000000 in
theorem v24 (n : Nat) {G : World → Prop} (hS : Stable G)  (hw : ∀ m w, G w → CallsIn Fence.wide m Try.prog 13 #[] w fun e w' => e = .returned (.bool true) ∧ Below w.heap.size w w') (Q : Exit → Act → World → Prop) (a : Act) (w : World) (h0 : SG [] 218 G a w)
    (hQ : ∀ a w, SG [(2, .bool true)] 218 G a w → Q .normal a w) : (regOf 24 C9).wpIn Fence.wide n Try.prog Q a w := by
  simp only [regOf, C9, Try.f9, Option.getD, Nat.reduceBEq, Bool.false_eq_true, if_true, if_false]
  refine region_sq (fun k_ a w => match k_ with | 0 => SG [] 218 G a w | 1 => SG [(217, .bool true)] 218 G a w | _ => SG [(2, .bool true)] 218 G a w) (show SG _ _ G a w from h0) ⟨?_, ?_, trivial⟩ ?_
  · intro a w hI
    have hI : SG _ _ G a w := hI
    go_simp
    refine ⟨trivial, fun h => (by cases h), (hw (n - 1) w hI.wp).mono ?_⟩
    rintro e w' ⟨rfl, hb2⟩
    exact hI.put (d := 217) (by decide) (by simp) (hS _ _ hI.wp hb2)
  · intro a w hI
    have hI : SG _ _ G a w := hI
    have e217 := hI.g 217 rfl
    go_simp
    exact hI.put (d := 2) (by decide) (by simp) hI.wp
  · intro a w hI
    have hI : SG _ _ G a w := hI
    exact hQ a w hI
/-! ### A box that is turned about -/
namespace Glow
theorem enc_layer (X Z x z y m : Nat) : enc X Z x z y + m * (X * Z) = enc X Z x z (y + m) := by
  induction m with
  | zero => simp
  | succ m ih => rw [Nat.add_mul, Nat.one_mul, ← Nat.add_assoc, ih, enc_y1]; rfl
structure Turn (X Y Z X' Y' Z' N : Nat) (f : Nat → Nat) : Prop where
  lt : ∀ i, i < N → f i < N
  sides : ∀ i s, i < N → s ∈ sides X Y Z i → f s ∈ sides X' Y' Z' (f i)
  layer : ∀ i m, i < N → f (i + m * (X * Z)) = f i + m * (X * Z)
  same : ∀ i m, i < N → f i + m * (X * Z) < N → i + m * (X * Z) < N
def wst (X Z i : Nat) : Nat := enc X Z (X - 1 - i % X) (i / X % Z) (i / X / Z)
def abt (X Z i : Nat) : Nat := enc Z X (i / X % Z) (i % X) (i / X / Z)
theorem wst_enc {X Z x z y : Nat} (hx : x < X) (hz : z < Z) : wst X Z (enc X Z x z y) = enc X Z (X - 1 - x) z y := by
  unfold wst; rw [enc_x hx, enc_z hx hz, enc_y hx hz]
theorem abt_enc {X Z x z y : Nat} (hx : x < X) (hz : z < Z) : abt X Z (enc X Z x z y) = enc Z X z x y := by
  unfold abt; rw [enc_x hx, enc_z hx hz, enc_y hx hz]
theorem coords {X Y Z i : Nat} (h : i < X * Y * Z) : ∃ x z y, x < X ∧ z < Z ∧ y < Y ∧ i = enc X Z x z y := by
  obtain ⟨h1, h2, h3⟩ := dec_lt h
  exact ⟨_, _, _, h1, h2, h3, (enc_eq X Z i).symm⟩
theorem enc_lt_iff {X Y Z x z y : Nat} (hx : x < X) (hz : z < Z) : enc X Z x z y < X * Y * Z ↔ y < Y := by
  constructor
  · intro h
    have := (dec_lt h).2.2
    rwa [enc_y hx hz] at this
  · exact enc_lt hx hz
theorem wst_inv {X Y Z i : Nat} (h : i < X * Y * Z) : wst X Z (wst X Z i) = i := by
  obtain ⟨x, z, y, hx, hz, hy, rfl⟩ := coords h
  rw [wst_enc hx hz, wst_enc (by omega) hz]
  congr 1; omega
theorem abt_inv {X Y Z i : Nat} (h : i < X * Y * Z) : abt Z X (abt X Z i) = i := by
  obtain ⟨x, z, y, hx, hz, hy, rfl⟩ := coords h
  rw [abt_enc hx hz, abt_enc hz hx]
theorem prod_swap (X Y Z : Nat) : Z * Y * X = X * Y * Z := by rw [Nat.mul_comm (Z * Y) X, Nat.mul_comm Z Y, Nat.mul_assoc]
theorem wst_turn (X Y Z : Nat) : Turn X Y Z X Y Z (X * Y * Z) (wst X Z) where
  lt := fun i hi => by
    obtain ⟨x, z, y, hx, hz, hy, rfl⟩ := coords hi
    rw [wst_enc hx hz]; exact enc_lt (by omega) hz hy
  sides := fun i s hi h => by
    obtain ⟨x, z, y, hx, hz, hy, rfl⟩ := coords hi
    rw [wst_enc hx hz]
    rw [mem_sides (by omega) hz]
    rcases (mem_sides hx hz).1 h with ⟨h1, rfl⟩ | ⟨k, rfl, rfl⟩ | ⟨h1, rfl⟩ | ⟨k, rfl, rfl⟩ | ⟨h1, rfl⟩ | ⟨k, rfl, rfl⟩
    · refine .inr (.inl ⟨X - 1 - (x + 1), by omega, ?_⟩); rw [wst_enc h1 hz]
    · refine .inl ⟨by omega, ?_⟩; rw [wst_enc (by omega) hz]; congr 1; omega
    · refine .inr (.inr (.inl ⟨h1, ?_⟩)); rw [wst_enc hx h1]
    · refine .inr (.inr (.inr (.inl ⟨k, rfl, ?_⟩))); rw [wst_enc hx (by omega)]
    · refine .inr (.inr (.inr (.inr (.inl ⟨h1, ?_⟩)))); rw [wst_enc hx hz]
    · refine .inr (.inr (.inr (.inr (.inr ⟨k, rfl, ?_⟩)))); rw [wst_enc hx hz]
  layer := fun i m hi => by
    obtain ⟨x, z, y, hx, hz, hy, rfl⟩ := coords hi
    rw [enc_layer, wst_enc hx hz, wst_enc hx hz, enc_layer]
  same := fun i m hi h => by
    obtain ⟨x, z, y, hx, hz, hy, rfl⟩ := coords hi
    rw [wst_enc hx hz, enc_layer, enc_lt_iff (by omega) hz] at h
    rw [enc_layer, enc_lt_iff hx hz]; exact h
theorem abt_turn (X Y Z : Nat) : Turn X Y Z Z Y X (X * Y * Z) (abt X Z) where
  lt := fun i hi => by
    obtain ⟨x, z, y, hx, hz, hy, rfl⟩ := coords hi
    rw [abt_enc hx hz, ← prod_swap]; exact enc_lt hz hx hy
  sides := fun i s hi h => by
    obtain ⟨x, z, y, hx, hz, hy, rfl⟩ := coords hi
    rw [abt_enc hx hz]
    rw [mem_sides hz hx]
    rcases (mem_sides hx hz).1 h with ⟨h1, rfl⟩ | ⟨k, rfl, rfl⟩ | ⟨h1, rfl⟩ | ⟨k, rfl, rfl⟩ | ⟨h1, rfl⟩ | ⟨k, rfl, rfl⟩
    · refine .inr (.inr (.inl ⟨h1, ?_⟩)); rw [abt_enc h1 hz]
    · refine .inr (.inr (.inr (.inl ⟨k, rfl, ?_⟩))); rw [abt_enc (by omega) hz]
    · refine .inl ⟨h1, ?_⟩; rw [abt_enc hx h1]
    · refine .inr (.inl ⟨k, rfl, ?_⟩); rw [abt_enc hx (by omega)]
    · refine .inr (.inr (.inr (.inr (.inl ⟨h1, ?_⟩)))); rw [abt_enc hx hz]
    · refine .inr (.inr (.inr (.inr (.inr ⟨k, rfl, ?_⟩)))); rw [abt_enc hx hz]
  layer := fun i m hi => by
    obtain ⟨x, z, y, hx, hz, hy, rfl⟩ := coords hi
    rw [enc_layer, abt_enc hx hz, abt_enc hx hz, Nat.mul_comm X Z, enc_layer]
  same := fun i m hi h => by
    obtain ⟨x, z, y, hx, hz, hy, rfl⟩ := coords hi
    rw [abt_enc hx hz, Nat.mul_comm X Z, enc_layer, ← prod_swap, enc_lt_iff hz hx] at h
    rw [enc_layer, enc_lt_iff hx hz]; exact h
end Glow
section
variable {X Y Z X' Y' Z' N : Nat} {f : Nat → Nat} {cl cl' : Nat → Bool} {lm lm' : Nat → Nat}
theorem Glow.Turn.sky (h : Glow.Turn X Y Z X' Y' Z' N f) (hN : X * Y * Z = N) (hN' : X' * Y' * Z' = N) (hL : X' * Z' = X * Z) (hX : 1 ≤ X) (hZ : 1 ≤ Z) (hX' : 1 ≤ X') (hZ' : 1 ≤ Z') (hc : ∀ i, i < N → cl' (f i) = cl i) {i : Nat} (hi : i < N) :
    (skyL X Y Z cl).getD i 0 ≤ (skyL X' Y' Z' cl').getD (f i) 0 := by
  have h1 := sky_fix (cl := cl) hN
  have h2 := sky_fix (cl := cl') hN'
  refine h1.2.le h2.2 (B := 15) (fun i _ => h1.1 i) f (fun i hi hc' => ⟨h.lt i hi, by rw [hc i hi]; exact hc', ?_, fun s hs => ⟨?_, h.sides i s hi hs⟩⟩) i hi
  · unfold skyS
    split
    · rename_i hm
      rw [if_pos]
      · exact Nat.le_refl _
      · have hm := (skyS_iff hN hX hZ hi).2 hm
        refine (skyS_iff hN' hX' hZ' (h.lt i hi)).1 fun m hlt => ?_
        rw [hL] at hlt ⊢
        have h3 := h.same i m hi hlt
        rw [← h.layer i m hi, hc _ h3]
        exact hm m h3
    · exact Nat.zero_le _
  · have hi' : i < X * Y * Z := by rw [hN]; exact hi
    have := (Glow.sides_sym X Y Z i s hi' hs).1
    rwa [hN] at this
theorem Glow.Turn.lamp (h : Glow.Turn X Y Z X' Y' Z' N f) (hN : X * Y * Z = N) (hN' : X' * Y' * Z' = N) (h15 : ∀ i, lm i ≤ 15) (h15' : ∀ i, lm' i ≤ 15) (hc : ∀ i, i < N → cl' (f i) = cl i) (hl : ∀ i, i < N → lm' (f i) = lm i) {i : Nat} (hi : i < N) :
    (lampL X Y Z cl lm).getD i 0 ≤ (lampL X' Y' Z' cl' lm').getD (f i) 0 := by
  have h1 := lamp_fix (cl := cl) hN h15
  have h2 := lamp_fix (cl := cl') hN' h15'
  refine h1.2.le h2.2 (B := 15) (fun i _ => h1.1 i) f (fun i hi hc' => ⟨h.lt i hi, by rw [hc i hi]; exact hc', by rw [hl i hi]; exact Nat.le_refl _, fun s hs => ⟨?_, h.sides i s hi hs⟩⟩) i hi
  have hi' : i < X * Y * Z := by rw [hN]; exact hi
  have := (Glow.sides_sym X Y Z i s hi' hs).1
  rwa [hN] at this
/-- The light of a box that is turned about. -/
theorem Glow.Turn.eq {g : Nat → Nat} (h : Glow.Turn X Y Z X' Y' Z' N f) (k : Glow.Turn X' Y' Z' X Y Z N g) (hfg : ∀ i, i < N → g (f i) = i) (hgf : ∀ i, i < N → f (g i) = i) (hN : X * Y * Z = N) (hN' : X' * Y' * Z' = N) (hL : X' * Z' = X * Z) (hX : 1 ≤ X) (hZ : 1 ≤ Z) (hX' : 1 ≤ X') (hZ' : 1 ≤ Z')
    (h15 : ∀ i, lm i ≤ 15) (h15' : ∀ i, lm' i ≤ 15) (hc : ∀ i, i < N → cl' (f i) = cl i) (hl : ∀ i, i < N → lm' (f i) = lm i) {i : Nat} (hi : i < N) :
    (skyL X' Y' Z' cl').getD (f i) 0 = (skyL X Y Z cl).getD i 0 ∧ (lampL X' Y' Z' cl' lm').getD (f i) 0 = (lampL X Y Z cl lm).getD i 0 := by
  have hc' : ∀ t, t < N → cl (g t) = cl' t := fun t ht => by rw [← hc _ (k.lt t ht), hgf t ht]
  have hl' : ∀ t, t < N → lm (g t) = lm' t := fun t ht => by rw [← hl _ (k.lt t ht), hgf t ht]
  have a1 := h.sky hN hN' hL hX hZ hX' hZ' hc hi
  have a2 := h.lamp hN hN' h15 h15' hc hl hi
  have b1 := k.sky hN' hN hL.symm hX' hZ' hX hZ hc' (h.lt i hi)
  have b2 := k.lamp hN' hN h15' h15 hc' hl' (h.lt i hi)
  rw [hfg i hi] at b1 b2
  exact ⟨Nat.le_antisymm b1 a1, Nat.le_antisymm b2 a2⟩
end
/-! ### Numbers -/
theorem wmul {a b : Nat} (h : a * b ≤ 9000000000) : IntKind.i64.wrap ((a : Int) * b) = ((a * b : Nat) : Int) := by
  rw [Int.natCast_mul]; exact IntWalk.i64_in _ (by rw [← Int.natCast_mul]; omega)
theorem wadd {a b : Nat} (h : a + b ≤ 9000000000) : IntKind.i64.wrap ((a : Int) + b) = ((a + b : Nat) : Int) := by
  rw [Int.natCast_add]; exact IntWalk.i64_in _ (by omega)
theorem wsub {a b : Nat} (h : b ≤ a) (h2 : a ≤ 9000000000) : IntKind.i64.wrap ((a : Int) - b) = ((a - b : Nat) : Int) := by
  rw [IntWalk.i64_in _ (by omega)]; omega
theorem wsub1 {a : Nat} (h : 1 ≤ a) (h2 : a ≤ 9000000000) : IntKind.i64.wrap ((a : Int) - 1) = ((a - 1 : Nat) : Int) := by
  rw [IntWalk.i64_in _ (by omega)]; omega
theorem wdiv {a b : Nat} (h : a ≤ 9000000000) : IntKind.i64.wrap ((a : Int) / b) = ((a / b : Nat) : Int) := by
  have : a / b ≤ a := Nat.div_le_self _ _
  rw [← Int.natCast_ediv]
  generalize a / b = q at *
  exact IntWalk.i64_in _ (by omega)
theorem tmodN (a b : Nat) : Int.tmod (a : Int) b = ((a % b : Nat) : Int) := rfl
/-! ### GlowTurned -/
noncomputable def Bd9 : Code := .seq (regOf 11 C9) (.seq (regOf 12 C9) (regOf 13 C9))
noncomputable def Lp9 : Code := .seq (.seq (regOf 9 C9) (.cond (.tmp 44) .skip (.exit 0))) (.seq (.block 1 Bd9) (regOf 10 C9))
noncomputable def Be9 : Code := .seq (regOf 21 C9) (.seq (regOf 22 C9) (.cond (.tmp 216) (.seq (regOf 23 C9) .ret) .skip))
noncomputable def Lq9 : Code := .seq (.seq (regOf 19 C9) (.cond (.tmp 152) .skip (.exit 2))) (.seq (.block 3 Be9) (regOf 20 C9))
theorem C9_eq : C9 = .seq (regOf 0 C9) (.seq (.seq (regOf 1 C9) (.cond (.tmp 22) (.seq (regOf 2 C9) .ret) .skip)) (.seq (regOf 3 C9) (.seq (.seq (regOf 4 C9) (.cond (.tmp 30) (.seq (regOf 5 C9) .ret) .skip)) (.seq (regOf 6 C9) (.seq (regOf 7 C9) (.seq (.seq (regOf 8 C9) (.block 0 (.loop Lp9))) (.seq (regOf 14 C9) (.seq (regOf 15 C9) (.seq (.seq (regOf 16 C9) (.cond (.tmp 148) (.seq (regOf 17 C9) .ret) .skip)) (.seq (.seq (regOf 18 C9) (.block 2 (.loop Lq9))) (.seq (regOf 24 C9) .ret))))))))))) := by kernel_rfl
/-- The cells turned about. -/
def turnA (A : Nat → Int) (g : Nat → Nat) (m : Nat) : Int := if m % 2 = 0 then (kd A (g (m / 2)) : Nat) else (lv A (g (m / 2)) : Nat)
theorem kd_turn (A : Nat → Int) (g : Nat → Nat) (s : Nat) : kd (turnA A g) s = kd A (g s) := by
  rw [show kd (turnA A g) s = (turnA A g (s * 2)).toNat from rfl]; unfold turnA; rw [if_pos (by omega), Int.toNat_natCast, show s * 2 / 2 = s from by omega]
theorem lv_turn (A : Nat → Int) (g : Nat → Nat) (s : Nat) : lv (turnA A g) s = lv A (g s) := by
  rw [show lv (turnA A g) s = (turnA A g (s * 2 + 1)).toNat from rfl]; unfold turnA; rw [if_neg (by omega), Int.toNat_natCast, show (s * 2 + 1) / 2 = s from by omega]
theorem clA_turn (A : Nat → Int) (g : Nat → Nat) (s : Nat) : clA (turnA A g) s = clA A (g s) := by unfold clA; rw [kd_turn, lv_turn]
theorem lmA_turn (A : Nat → Int) (g : Nat → Nat) (s : Nat) : lmA (turnA A g) s = lmA A (g s) := by unfold lmA; rw [kd_turn, lv_turn]
/-- So far the row is filled. -/
structure Filled (N : Nat) (A : Nat → Int) (f : Nat → Nat) (j : Nat) (c : Array Value) : Prop where
  size : c.size = N * 2
  row : ∀ i, i < j → c[f i * 2]? = some (.int .u8 (kd A i)) ∧ c[f i * 2 + 1]? = some (.int .u8 (lv A i))
theorem Filled.made (N : Nat) (A : Nat → Int) (f : Nat → Nat) : Filled N A f 0 (madeCells #[.int .u8 0, .int .u8 0] (N * 2)) := ⟨size_madeCells _ _, fun i h => absurd h (Nat.not_lt_zero _)⟩
theorem Filled.any {N : Nat} {A : Nat → Int} {f : Nat → Nat} {j : Nat} {c : Array Value} (h : Filled N A f j c) {m : Nat} (hm : m < N * 2) : ∃ v, c[m]? = some v := ⟨_, Array.getElem?_eq_getElem (by rw [h.size]; exact hm)⟩
theorem Filled.set {N : Nat} {A : Nat → Int} {f : Nat → Nat} {j : Nat} {c : Array Value} (h : Filled N A f j c) (hj : f j < N) (inj : ∀ i, i < j → f i ≠ f j) : Filled N A f (j + 1) ((c.setIfInBounds (f j * 2) (.int .u8 (kd A j))).setIfInBounds (f j * 2 + 1) (.int .u8 (lv A j))) where
  size := by simp [h.size]
  row := fun i hi => by
    have hs := h.size
    simp only [Array.getElem?_setIfInBounds, Array.size_setIfInBounds]
    by_cases e : i = j
    · subst e
      rw [if_neg (by omega), if_pos rfl, if_pos (by omega), if_pos rfl, if_pos (by omega)]
      exact ⟨rfl, rfl⟩
    · have := inj i (by omega)
      rw [if_neg (by omega), if_neg (by omega), if_neg (by omega), if_neg (by omega)]
      exact h.row i (by omega)
theorem Filled.row2 {W0 w : World} {bs : List (Nat × Obj)} {N g off g2 : Nat} {A : Nat → Int} {f f' : Nat → Nat} {c : Array Value} (h : Filled N A f N c) (hr : Row2 W0 g off N A) (hf : ∀ t, t < N → f' t < N ∧ f (f' t) = t) (hh : Has W0 bs w) (hm : (g2, Obj.cells c 32 (0, 0)) ∈ bs) : Row2 w g2 0 N (turnA A f') where
  lt := hh.lt hm
  cell := fun j hj => by
    rw [Nat.zero_add]
    refine hh.cell hm ?_
    obtain ⟨h1, h2⟩ := hf (j / 2) (by omega)
    have h3 := h.row _ h1
    rw [h2] at h3
    unfold turnA
    split
    · rw [show j = j / 2 * 2 from by omega, h3.1, show j / 2 * 2 / 2 = j / 2 from by omega]
    · rw [show j = j / 2 * 2 + 1 from by omega, h3.2, show (j / 2 * 2 + 1) / 2 = j / 2 from by omega]
  rng := fun j hj => by
    obtain ⟨h1, h2⟩ := hf (j / 2) (by omega)
    have := hr.kdle h1
    unfold turnA
    split <;> omega
section
variable {W0 : World} {X Y Z N g off cap r B g2 g3 : Nat} {A : Nat → Int}
abbrev A7t (B r g2 g3 N i : Nat) : List (Nat × Value) := [(1, .pointer (some ⟨B, 0, none⟩)), (3, .slice (some ⟨r, 0, none⟩) N N), (5, .slice (some ⟨g2, 0, none⟩) N N), (6, .slice (some ⟨g3, 0, none⟩) N N), (7, .int .i64 i)]
abbrev bs7 (X Y Z N g off cap r B g2 g3 : Nat) (A : Nat → Int) (c2 c3 : Array Value) : List (Nat × Obj) := (g3, .cells c3 32 (0, 0)) :: (g2, .cells c2 32 (0, 0)) :: bs5 X Y Z N g off cap r B A
theorem sub7 {p p' : Nat × Obj} : ∀ q ∈ bs5 X Y Z N g off cap r B A, q ∈ p :: p' :: bs5 X Y Z N g off cap r B A := fun _ h => List.mem_cons_of_mem _ (List.mem_cons_of_mem _ h)
/-- What is reckoned of an index. -/
theorem num (hX : 1 ≤ X) (hZ : 1 ≤ Z) (hNe : N = X * Y * Z) {i : Nat} (hi : i < N) :
    i % X < X ∧ i / X % Z < Z ∧ i / X / Z * Z ≤ N ∧ i / X / Z * Z + i / X % Z = i / X ∧ i / X * X + X ≤ N ∧ i / X / Z * X + i % X ≤ N ∧ (i / X / Z * X + i % X) * Z + i / X % Z < N ∧
      Glow.wst X Z i = i / X * X + X - 1 - i % X ∧ Glow.abt X Z i = (i / X / Z * X + i % X) * Z + i / X % Z := by
  rw [hNe] at hi
  obtain ⟨h1, h2, h3⟩ := Glow.dec_lt hi
  have h4 : i / X / Z * Z + i / X % Z = i / X := by rw [Nat.mul_comm]; exact Nat.div_add_mod _ _
  have h5 := Glow.enc_lt (Y := Y) (show X - 1 < X by omega) h2 h3
  have h6 := Glow.enc_lt (X := Z) (Y := Y) h2 h1 h3
  rw [Glow.prod_swap] at h6
  unfold Glow.enc at h5 h6
  rw [h4] at h5
  have h7 : (i / X / Z * X + i % X) * 1 ≤ (i / X / Z * X + i % X) * Z := Nat.mul_le_mul_left _ hZ
  have h8 : i / X * 1 ≤ i / X * X := Nat.mul_le_mul_left _ hX
  refine ⟨h1, h2, by omega, h4, by omega, by omega, by omega, ?_, rfl⟩
  unfold Glow.wst Glow.enc
  rw [h4]; omega
set_option maxHeartbeats 1000000 in
theorem turn_round (n : Nat) (h : Arg W0 X Y Z N g off A) {i : Nat} (hi : i < N) {c2 c3 : Array Value} (f2 : Filled N A (Glow.wst X Z) i c2) (f3 : Filled N A (Glow.abt X Z) i c3) (a : Act) (w : World) (Q : Exit → Act → World → Prop)
    (ha : SG (A7t B r g2 g3 N i) 218 (Has W0 (bs7 X Y Z N g off cap r B g2 g3 A c2 c3)) a w)
    (hQ : ∀ c2 c3 a w, Filled N A (Glow.wst X Z) (i + 1) c2 → Filled N A (Glow.abt X Z) (i + 1) c3 → SG (A7t B r g2 g3 N i) 218 (Has W0 (bs7 X Y Z N g off cap r B g2 g3 A c2 c3)) a w → Q .normal a w) : Bd9.wpIn Fence.wide n Try.prog Q a w := by
  have hN := h.le
  have hXZ : 1 ≤ X ∧ 1 ≤ Z := ⟨h.x.1, h.z.1⟩
  obtain ⟨k1, k2, k3, k4, k5, k6, k7, k8, k9⟩ := num hXZ.1 hXZ.2 h.n hi
  have hN' := h.n
  have wlt := (Glow.wst_turn X Y Z).lt i (by rw [← hN']; exact hi)
  have alt := (Glow.abt_turn X Y Z).lt i (by rw [← hN']; exact hi)
  rw [← hN'] at wlt alt
  unfold Bd9
  refine wpIn_seq (v11 n (Has.stable _ _) B r g2 g3 N i X Z (by omega) (by omega) (i % X) (i / X) (i / X % Z) (i / X / Z) (tmodN _ _) (wdiv (by omega)) (tmodN _ _) (wdiv (by have := Nat.div_le_self i X; omega))
    (fun w hh => boxs5 sub7 hh rfl) (fun w hh => boxs5 sub7 hh rfl) _ a w ha ?_)
  intro a1 w1 h1
  refine wpIn_seq (v12 n (G := Has W0 (bs7 X Y Z N g off cap r B g2 g3 A c2 c3)) (G1 := Has W0 (bs7 X Y Z N g off cap r B g2 g3 A ((c2.setIfInBounds (Glow.wst X Z i * 2) (.int .u8 (kd A i))).setIfInBounds (Glow.wst X Z i * 2 + 1) (.int .u8 (lv A i))) c3)) (Has.stable _ _) B r g2 g3 N i X Z (i % X) (i / X % Z) (i / X / Z)
    (i / X / Z * Z) (i / X) (i / X * X) (i / X * X + X) (i / X * X + X - 1) (Glow.wst X Z i) (wmul (by omega)) (by rw [wadd (by omega), k4]) (wmul (by omega)) (wadd (by omega)) (wsub1 (by omega) (by omega)) (by rw [wsub (by omega) (by omega), k8]) wlt g off cap (kd A i) (lv A i) hi
    (fun w hh => boxs5 sub7 hh rfl) (fun w hh => boxs5 sub7 hh rfl) (fun w hh => boxs5 sub7 hh rfl) (fun w hh => hh.old h.row.lt (h.row.kind hi)) (fun w hh => hh.old h.row.lt (h.row.level hi))
    (fun w hh => ⟨(f2.any (m := Glow.wst X Z i * 2) (by omega)).imp fun _ hv => hh.cell (List.mem_cons_of_mem _ List.mem_cons_self) hv, (f2.any (m := Glow.wst X Z i * 2 + 1) (by omega)).imp fun _ hv => hh.cell (List.mem_cons_of_mem _ List.mem_cons_self) hv⟩)
    (fun w hh => ⟨hh.unfrozen (List.mem_cons_of_mem _ List.mem_cons_self) _, hh.unfrozen (List.mem_cons_of_mem _ List.mem_cons_self) _⟩)
    (fun w hh => ((hh.swap.set (m := Glow.wst X Z i * 2) (.int .u8 (kd A i))).set (m := Glow.wst X Z i * 2 + 1) (.int .u8 (lv A i))).swap) _ a1 w1 h1 ?_)
  intro a2 w2 h2
  refine v13 n (G1 := Has W0 (bs7 X Y Z N g off cap r B g2 g3 A ((c2.setIfInBounds (Glow.wst X Z i * 2) (.int .u8 (kd A i))).setIfInBounds (Glow.wst X Z i * 2 + 1) (.int .u8 (lv A i))) ((c3.setIfInBounds (Glow.abt X Z i * 2) (.int .u8 (kd A i))).setIfInBounds (Glow.abt X Z i * 2 + 1) (.int .u8 (lv A i))))) (Has.stable _ _) B r g2 g3 N i X Z (i % X) (i / X % Z) (i / X / Z)
    (i / X / Z * X) (i / X / Z * X + i % X) ((i / X / Z * X + i % X) * Z) (Glow.abt X Z i) (wmul (by omega)) (wadd (by omega)) (wmul (by omega)) (by rw [wadd (by omega), k9]) alt g off cap (kd A i) (lv A i) hi
    (fun w hh => boxs5 sub7 hh rfl) (fun w hh => boxs5 sub7 hh rfl) (fun w hh => boxs5 sub7 hh rfl) (fun w hh => hh.old h.row.lt (h.row.kind hi)) (fun w hh => hh.old h.row.lt (h.row.level hi))
    (fun w hh => ⟨(f3.any (m := Glow.abt X Z i * 2) (by omega)).imp fun _ hv => hh.cell List.mem_cons_self hv, (f3.any (m := Glow.abt X Z i * 2 + 1) (by omega)).imp fun _ hv => hh.cell List.mem_cons_self hv⟩)
    (fun w hh => ⟨hh.unfrozen List.mem_cons_self _, hh.unfrozen List.mem_cons_self _⟩)
    (fun w hh => (hh.set (m := Glow.abt X Z i * 2) (.int .u8 (kd A i))).set (m := Glow.abt X Z i * 2 + 1) (.int .u8 (lv A i))) _ a2 w2 h2 ?_
  intro a3 w3 h3
  refine hQ _ _ a3 w3 (f2.set wlt fun j hj e => ?_) (f3.set alt fun j hj e => ?_) h3
  · have e1 := Glow.wst_inv (X := X) (Y := Y) (Z := Z) (i := j) (by rw [← hN']; omega)
    have e2 := Glow.wst_inv (X := X) (Y := Y) (Z := Z) (i := i) (by rw [← hN']; omega)
    rw [e] at e1; omega
  · have e1 := Glow.abt_inv (X := X) (Y := Y) (Z := Z) (i := j) (by rw [← hN']; omega)
    have e2 := Glow.abt_inv (X := X) (Y := Y) (Z := Z) (i := i) (by rw [← hN']; omega)
    rw [e] at e1; omega
set_option maxHeartbeats 1000000 in
theorem turn_loop (n : Nat) (h : Arg W0 X Y Z N g off A) {c2 c3 : Array Value} (f2 : Filled N A (Glow.wst X Z) 0 c2) (f3 : Filled N A (Glow.abt X Z) 0 c3) (a : Act) (w : World) (Q : Exit → Act → World → Prop)
    (ha : SG (A7t B r g2 g3 N 0) 218 (Has W0 (bs7 X Y Z N g off cap r B g2 g3 A c2 c3)) a w)
    (hQ : ∀ c2 c3 a w, Filled N A (Glow.wst X Z) N c2 → Filled N A (Glow.abt X Z) N c3 → SG [(1, .pointer (some ⟨B, 0, none⟩)), (3, .slice (some ⟨r, 0, none⟩) N N), (5, .slice (some ⟨g2, 0, none⟩) N N), (6, .slice (some ⟨g3, 0, none⟩) N N)] 218 (Has W0 (bs7 X Y Z N g off cap r B g2 g3 A c2 c3)) a w → Q .normal a w) :
    (Code.block 0 (.loop Lp9)).wpIn Fence.wide n Try.prog Q a w := by
  have hN := h.le
  refine wpIn_block (wpIn_loop (fun a w => ∃ i c2 c3, i ≤ N ∧ Filled N A (Glow.wst X Z) i c2 ∧ Filled N A (Glow.abt X Z) i c3 ∧ SG (A7t B r g2 g3 N i) 218 (Has W0 (bs7 X Y Z N g off cap r B g2 g3 A c2 c3)) a w) (fun a _ => N - slotN 7 a) ⟨0, _, _, Nat.zero_le _, f2, f3, ha⟩ ?_)
  rintro a w ⟨i, c2, c3, hin, f2, f3, ha⟩
  have e5 := ha.slot (t := 7) (v := i) (k := .i64) (by simp)
  have hG := ha.wp
  unfold Lp9
  refine wpIn_seq (wpIn_seq (v9 n w B r g2 g3 N i (some ⟨g, off, none⟩) cap (boxs5 sub7 hG rfl) _ a ha.sr ?_))
  intro a1 h1
  have h1 := h1.sg hG
  refine wpIn_cond (t := decide (i < N)) (by rw [eval_tmp]; exact h1.kn (44, _) (by simp)) ?_
  by_cases hlt : i < N
  · rw [decide_eq_true hlt]
    refine wpIn_skip (wpIn_seq (wpIn_block ?_))
    refine turn_round n h hlt f2 f3 a1 w _ (h1.sub (by simp)) ?_
    intro c2 c3 a3 w3 f2 f3 h3
    show (regOf 10 C9).wpIn _ _ _ _ _ _
    have hG3 := h3.wp
    refine v10 n w3 B r g2 g3 N i (by omega) _ a3 h3.sr ?_
    intro a6 h6
    have h6 : SG (A7t B r g2 g3 N (i + 1)) 218 (Has W0 (bs7 X Y Z N g off cap r B g2 g3 A c2 c3)) a6 w3 := h6.sg hG3
    exact ⟨⟨i + 1, c2, c3, hlt, f2, f3, h6⟩, by rw [e5, h6.slot (t := 7) (v := i + 1) (k := .i64) (by simp)]; omega⟩
  · rw [decide_eq_false hlt]
    obtain rfl : i = N := by omega
    exact wpIn_exit (hQ c2 c3 a1 w f2 f3 (h1.sub (by simp)))
abbrev A15t (B r r2 r3 N i : Nat) : List (Nat × Value) := [(1, .pointer (some ⟨B, 0, none⟩)), (3, .slice (some ⟨r, 0, none⟩) N N), (11, .slice (some ⟨r2, 0, none⟩) N N), (13, .slice (some ⟨r3, 0, none⟩) N N), (15, .int .i64 i)]
set_option maxHeartbeats 1000000 in
theorem turn_loop2 (n : Nat) {G : World → Prop} (hS : Stable G) (h : Arg W0 X Y Z N g off A) {r2 r3 : Nat} {S L : Nat → Nat}
    (b0 : ∀ w, G w → w.cell? ⟨B, 0, none⟩ = some (.int .i64 X)) (b2 : ∀ w, G w → w.cell? ⟨B, 2, none⟩ = some (.int .i64 Z))
    (a1 : ∀ i, i < N → ∀ w, G w → w.cell? ⟨r, i * 2, none⟩ = some (.int .u8 (S i)) ∧ w.cell? ⟨r, i * 2 + 1, none⟩ = some (.int .u8 (L i)))
    (a2 : ∀ i, i < N → ∀ w, G w → w.cell? ⟨r2, Glow.wst X Z i * 2, none⟩ = some (.int .u8 (S i)) ∧ w.cell? ⟨r2, Glow.wst X Z i * 2 + 1, none⟩ = some (.int .u8 (L i)))
    (a3 : ∀ i, i < N → ∀ w, G w → w.cell? ⟨r3, Glow.abt X Z i * 2, none⟩ = some (.int .u8 (S i)) ∧ w.cell? ⟨r3, Glow.abt X Z i * 2 + 1, none⟩ = some (.int .u8 (L i)))
    (a : Act) (w : World) (Q : Exit → Act → World → Prop) (ha : SG (A15t B r r2 r3 N 0) 218 G a w) (hQ : ∀ a w, SG [] 218 G a w → Q .normal a w) : (Code.block 2 (.loop Lq9)).wpIn Fence.wide n Try.prog Q a w := by
  have hN := h.le
  refine wpIn_block (wpIn_loop (fun a w => ∃ i, i ≤ N ∧ SG (A15t B r r2 r3 N i) 218 G a w) (fun a _ => N - slotN 15 a) ⟨0, Nat.zero_le _, ha⟩ ?_)
  rintro a w ⟨i, hin, ha⟩
  have e5 := ha.slot (t := 15) (v := i) (k := .i64) (by simp)
  have hG := ha.wp
  unfold Lq9
  refine wpIn_seq (wpIn_seq (v19 n w B r r2 r3 N i _ a ha.sr ?_))
  intro a1' h1
  have h1 := h1.sg hG
  refine wpIn_cond (t := decide (i < N)) (by rw [eval_tmp]; exact h1.kn (152, _) (by simp)) ?_
  by_cases hlt : i < N
  · rw [decide_eq_true hlt]
    refine wpIn_skip (wpIn_seq (wpIn_block ?_))
    have hXZ : 1 ≤ X ∧ 1 ≤ Z := ⟨h.x.1, h.z.1⟩
    obtain ⟨k1, k2, k3, k4, k5, k6, k7, k8, k9⟩ := num hXZ.1 hXZ.2 h.n hlt
    have wlt := (Glow.wst_turn X Y Z).lt i (by rw [← h.n]; exact hlt)
    have alt := (Glow.abt_turn X Y Z).lt i (by rw [← h.n]; exact hlt)
    rw [← h.n] at wlt alt
    unfold Be9
    refine wpIn_seq (v21 n hS B r r2 r3 N i X Z (by omega) (by omega) (i % X) (i / X) (i / X % Z) (i / X / Z) (tmodN _ _) (wdiv (by omega)) (tmodN _ _) (wdiv (by have := Nat.div_le_self i X; omega)) b0 b2 _ a1' w (h1.sub (by simp)) ?_)
    intro a2' w2 h2
    refine wpIn_seq (v22 n hS B r r2 r3 N i X Z (i % X) (i / X % Z) (i / X / Z) (i / X / Z * Z) (i / X) (i / X * X) (i / X * X + X) (i / X * X + X - 1) (Glow.wst X Z i) (wmul (by omega)) (by rw [wadd (by omega), k4]) (wmul (by omega)) (wadd (by omega)) (wsub1 (by omega) (by omega)) (by rw [wsub (by omega) (by omega), k8]) wlt
      (i / X / Z * X) (i / X / Z * X + i % X) ((i / X / Z * X + i % X) * Z) (Glow.abt X Z i) (wmul (by omega)) (wadd (by omega)) (wmul (by omega)) (by rw [wadd (by omega), k9]) alt (S i) (L i) hlt
      b2 b0 (fun w hh => (a2 i hlt w hh).1) (fun w hh => (a2 i hlt w hh).2) (fun w hh => (a1 i hlt w hh).1) (fun w hh => (a1 i hlt w hh).2) (fun w hh => (a3 i hlt w hh).1) (fun w hh => (a3 i hlt w hh).2) _ a2' w2 h2 ?_)
    intro a3' w3 h3
    have hG3 := h3.wp
    refine wpIn_cond (t := false) (by rw [eval_tmp]; exact h3.kn (216, .bool false) (by simp)) (wpIn_skip ?_)
    show (regOf 20 C9).wpIn _ _ _ _ _ _
    refine v20 n w3 B r r2 r3 N i (by omega) _ a3' (h3.sub (by simp)).sr ?_
    intro a6 h6
    have h6 : SG (A15t B r r2 r3 N (i + 1)) 218 G a6 w3 := h6.sg hG3
    exact ⟨⟨i + 1, hlt, h6⟩, by rw [e5, h6.slot (t := 15) (v := i + 1) (k := .i64) (by simp)]; omega⟩
  · rw [decide_eq_false hlt]
    exact wpIn_exit (hQ a1' w (h1.sub (by simp)))
end
set_option maxHeartbeats 1000000 in
theorem turned_in (n M : Nat) (W0 : World) (X Y Z : Int) (sv : Value) (hs : Sx.SlIn W0 [.u8, .u8] M sv) : CallsIn Fence.wide n Try.prog 9 #[.agg #[.int .i64 X, .int .i64 Y, .int .i64 Z, sv]] W0 fun e w' => e = .returned (.bool true) ∧ Below W0.heap.size W0 w' := by
  obtain ⟨o, len, c, rfl⟩ : ∃ o len c, sv = .slice o len c := by cases hs <;> exact ⟨_, _, _, rfl⟩
  refine callsIn_of_wp Try.func9 rfl trivial ?_
  show C9.wpIn _ _ _ _ _ _
  rw [C9_eq]
  refine wpIn_seq ?_
  refine v0 n W0 X Y Z (.slice o len c) _ _ ⟨by simp [Try.ntmps9], rfl, by simp [Try.ntmps9], rfl⟩ ?_
  intro a1 h1
  have hH := (Has.start W0).alloc (.cells #[.int .i64 X, .int .i64 Y, .int .i64 Z, .slice o len c] 24)
  generalize W0.alloc (.cells #[.int .i64 X, .int .i64 Y, .int .i64 Z, .slice o len c] 24) = W1 at h1 hH ⊢
  obtain ⟨B, hB⟩ : ∃ B, B = W0.heap.size := ⟨_, rfl⟩
  rw [← hB] at h1 hH
  have ret : ∀ bs a w, SG [(2, .bool true)] 218 (Has W0 bs) a w → bodyPost Try.prog Try.f9 (fun e w' => e = .returned (.bool true) ∧ Below W0.heap.size W0 w') .ret a w := fun bs a w h =>
    ⟨h.defers, _, results_tmp (t := 2) rfl _ _ _, by rw [Array.getD_eq_getD_getElem?, h.kn (2, .bool true) (by simp)], h.wp.bel⟩
  have cB : ∀ {w}, Has W0 [(B, .cells #[.int .i64 X, .int .i64 Y, .int .i64 Z, .slice o len c] 24 (0, 0))] w → ∀ {k v}, (#[.int .i64 X, .int .i64 Y, .int .i64 Z, .slice o len c] : Array Value)[k]? = some v → w.cell? ⟨B, k, none⟩ = some v := fun hh _ _ hv => hh.cell (t := 24) (fr := (0, 0)) (by simp) hv
  refine wpIn_seq (wpIn_seq (v1 n W1 B o len c (cB hH rfl) _ a1 h1 ?_))
  intro a2 h2
  have h2 := h2.sg hH
  by_cases hl : (3000 : Int) < len
  · refine wpIn_cond (t := true) (by rw [eval_tmp, h2.kn (22, .bool (decide ((3000 : Int) < len))) (by simp)]; simp; omega) ?_
    refine wpIn_seq (v2 n (Has.stable _ _) (fun m w _ => works_in m w) _ a2 W1 (h2.sub (by simp)) ?_)
    intro a3 w3 h3
    exact wpIn_ret (ret _ a3 w3 h3)
  refine wpIn_cond (t := false) (by rw [eval_tmp, h2.kn (22, .bool (decide ((3000 : Int) < len))) (by simp)]; simp; omega) (wpIn_skip ?_)
  by_cases hc : chk X Y Z len = 0
  · obtain ⟨x, y, z, g, off, A, rfl, rfl, rfl, rfl, h⟩ := arg_of hs hc
    refine wpIn_seq (v3 n B x y z (some ⟨g, off, none⟩) len c len (fun r => Has W0 (bs5 x y z len g off c r B A)) (fun w h => cB h rfl) (fun w h => cB h rfl) (fun w h => cB h rfl) (fun w h => cB h rfl)
      (fun m w hh => light_has m (h.row.old hh) h.x h.y h.z h.n h.le hh) _ a2 W1 (h2.sub (by simp)) ?_)
    intro r a3 w3 h3
    have hG3 := h3.wp
    have hN := h.le
    refine wpIn_seq (wpIn_seq (v4g n w3 B r len 0 _ a3 h3.sr ?_))
    intro a4 h4
    refine wpIn_cond (t := false) (by rw [eval_tmp]; exact h4.kn (30, .bool ((0 : Int) != 0)) (by simp)) (wpIn_skip ?_)
    refine wpIn_seq (v6 n B r len (some ⟨g, off, none⟩) c (fun w hh => boxs5 (fun _ h => h) hh rfl) h.le (fun g2 => Has W0 ((g2, .cells (madeCells #[.int .u8 0, .int .u8 0] (len * 2)) 32 (0, 0)) :: bs5 x y z len g off c r B A)) (fun w hh => hh.alloc _) _ a4 w3 ((h4.sub (by simp)).sg hG3) ?_)
    intro g2 a5 w5 h5
    refine wpIn_seq (v7 n B r g2 len (some ⟨g, off, none⟩) c (fun w hh => boxs5 (fun _ h => List.mem_cons_of_mem _ h) hh rfl) h.le (fun g3 => Has W0 (bs7 x y z len g off c r B g2 g3 A (madeCells #[.int .u8 0, .int .u8 0] (len * 2)) (madeCells #[.int .u8 0, .int .u8 0] (len * 2)))) (fun w hh => hh.alloc _) _ a5 w5 h5 ?_)
    intro g3 a6 w6 h6
    have hG6 := h6.wp
    refine wpIn_seq (wpIn_seq (v8 n w6 B r g2 g3 len _ a6 h6.sr ?_))
    intro a7 h7
    refine turn_loop n h (Filled.made _ _ _) (Filled.made _ _ _) a7 w6 _ (h7.sg hG6) ?_
    intro c2 c3 a8 w8 f2 f3 h8
    have hi2 : ∀ t, t < len → Glow.wst x z t < len ∧ Glow.wst x z (Glow.wst x z t) = t := fun t ht => ⟨by have := (Glow.wst_turn x y z).lt t (by rw [← h.n]; exact ht); rwa [← h.n] at this, Glow.wst_inv (by rw [← h.n]; exact ht)⟩
    have hi3 : ∀ t, t < len → Glow.abt z x t < len ∧ Glow.abt x z (Glow.abt z x t) = t := fun t ht => ⟨by have := (Glow.abt_turn z y x).lt t (by rw [Glow.prod_swap, ← h.n]; exact ht); rwa [Glow.prod_swap, ← h.n] at this, Glow.abt_inv (Y := y) (by rw [Glow.prod_swap, ← h.n]; exact ht)⟩
    refine wpIn_seq (v14 n B r g2 g3 x y z len (fun r2 => Has W0 ((r2, .cells (pairsV (skyL x y z (clA (turnA A (Glow.wst x z)))) (lampL x y z (clA (turnA A (Glow.wst x z))) (lmA (turnA A (Glow.wst x z)))) len len) 37 (0, 0)) :: bs7 x y z len g off c r B g2 g3 A c2 c3))
      (fun w hh => boxs5 sub7 hh rfl) (fun w hh => boxs5 sub7 hh rfl) (fun w hh => boxs5 sub7 hh rfl)
      (fun m w hh => light_has m (f2.row2 h.row hi2 hh (List.mem_cons_of_mem _ List.mem_cons_self)) h.x h.y h.z h.n h.le hh) _ a8 w8 h8 ?_)
    intro r2 a9 w9 h9
    have sub8 : ∀ {p1 p2 p3 : Nat × Obj}, ∀ q ∈ bs5 x y z len g off c r B A, q ∈ p1 :: p2 :: p3 :: bs5 x y z len g off c r B A := fun _ hq => List.mem_cons_of_mem _ (List.mem_cons_of_mem _ (List.mem_cons_of_mem _ hq))
    refine wpIn_seq (v15 n B r g3 r2 x y z len (fun r3 => Has W0 ((r3, .cells (pairsV (skyL z y x (clA (turnA A (Glow.abt z x)))) (lampL z y x (clA (turnA A (Glow.abt z x))) (lmA (turnA A (Glow.abt z x)))) len len) 37 (0, 0)) :: (r2, .cells (pairsV (skyL x y z (clA (turnA A (Glow.wst x z)))) (lampL x y z (clA (turnA A (Glow.wst x z))) (lmA (turnA A (Glow.wst x z)))) len len) 37 (0, 0)) :: bs7 x y z len g off c r B g2 g3 A c2 c3))
      (fun w hh => boxs5 sub8 hh rfl) (fun w hh => boxs5 sub8 hh rfl) (fun w hh => boxs5 sub8 hh rfl)
      (fun m w hh => light_has m (f3.row2 h.row hi3 hh (List.mem_cons_of_mem _ List.mem_cons_self)) h.z h.y h.x (by rw [Glow.prod_swap]; exact h.n) h.le hh) _ a9 w9 h9 ?_)
    intro r3 a10 w10 h10
    have hG10 := h10.wp
    refine wpIn_seq (wpIn_seq (v16 n w10 B r r2 r3 len _ a10 h10.sr ?_))
    intro a11 h11
    refine wpIn_cond (t := false) (by rw [eval_tmp]; exact h11.kn (148, .bool false) (by simp)) (wpIn_skip ?_)
    refine wpIn_seq (wpIn_seq (v18 n w10 B r r2 r3 len _ a11 (h11.sub (by simp)) ?_))
    intro a12 h12
    have sub9 : ∀ {p1 p2 p3 p4 : Nat × Obj}, ∀ q ∈ bs5 x y z len g off c r B A, q ∈ p1 :: p2 :: p3 :: p4 :: bs5 x y z len g off c r B A := fun _ hq => List.mem_cons_of_mem _ (List.mem_cons_of_mem _ (List.mem_cons_of_mem _ (List.mem_cons_of_mem _ hq)))
    have T2 := Glow.wst_turn x y z
    have T3 := Glow.abt_turn x y z
    have T4 := Glow.abt_turn z y x
    rw [← h.n] at T2 T3
    rw [Glow.prod_swap, ← h.n] at T4
    have hxi : ∀ t, t < len → Glow.abt z x (Glow.abt x z t) = t := fun t ht => Glow.abt_inv (Y := y) (by rw [← h.n]; exact ht)
    have eq2 : ∀ i, i < len → _ := fun i hi => T2.eq (cl := clA A) (lm := lmA A) (cl' := clA (turnA A (Glow.wst x z))) (lm' := lmA (turnA A (Glow.wst x z))) T2 (fun t ht => (hi2 t ht).2) (fun t ht => (hi2 t ht).2) h.n.symm h.n.symm rfl h.x.1 h.z.1 h.x.1 h.z.1 (lmA_le _) (lmA_le _)
      (fun t ht => by rw [clA_turn, (hi2 t ht).2]) (fun t ht => by rw [lmA_turn, (hi2 t ht).2]) hi
    have eq3 : ∀ i, i < len → _ := fun i hi => T3.eq (cl := clA A) (lm := lmA A) (cl' := clA (turnA A (Glow.abt z x))) (lm' := lmA (turnA A (Glow.abt z x))) T4 hxi (fun t ht => (hi3 t ht).2) h.n.symm (by rw [Glow.prod_swap]; exact h.n.symm) (Nat.mul_comm _ _) h.x.1 h.z.1 h.z.1 h.x.1 (lmA_le _) (lmA_le _)
      (fun t ht => by rw [clA_turn, hxi t ht]) (fun t ht => by rw [lmA_turn, hxi t ht]) hi
    refine turn_loop2 n (Has.stable _ _) h (S := fun i => (skyL x y z (clA A)).getD i 0) (L := fun i => (lampL x y z (clA A) (lmA A)).getD i 0) (fun w hh => boxs5 sub9 hh rfl) (fun w hh => boxs5 sub9 hh rfl)
      (fun i hi w hh => ⟨lights5 sub9 hh (pair_sky _ _ hi), lights5 sub9 hh (pair_lamp _ _ hi)⟩)
      (fun i hi w hh => ⟨by rw [← (eq2 i hi).1]; exact hh.cell (List.mem_cons_of_mem _ List.mem_cons_self) (pair_sky _ _ (T2.lt i hi)), by rw [← (eq2 i hi).2]; exact hh.cell (List.mem_cons_of_mem _ List.mem_cons_self) (pair_lamp _ _ (T2.lt i hi))⟩)
      (fun i hi w hh => ⟨by rw [← (eq3 i hi).1]; exact hh.cell List.mem_cons_self (pair_sky _ _ (T3.lt i hi)), by rw [← (eq3 i hi).2]; exact hh.cell List.mem_cons_self (pair_lamp _ _ (T3.lt i hi))⟩) a12 w10 _ (h12.sg hG10) ?_
    intro a13 w13 h13
    refine wpIn_seq (v24 n (Has.stable _ _) (fun m w _ => works_in m w) _ a13 w13 h13 ?_)
    intro a14 w14 h14
    exact wpIn_ret (ret _ a14 w14 h14)
  · refine wpIn_seq (v3b n (Has.stable _ _) B X Y Z o len c (chk X Y Z len) (fun w h => cB h rfl) (fun w h => cB h rfl) (fun w h => cB h rfl) (fun w h => cB h rfl) (fun m w _ => light_bad m X Y Z o len c w hc) _ a2 W1 (h2.sub (by simp)) ?_)
    intro a3 w3 h3
    have hG3 := h3.wp
    refine wpIn_seq (wpIn_seq (v4 n w3 (chk X Y Z len) _ a3 (h3.sub (by simp)).sr ?_))
    intro a4 h4
    refine wpIn_cond (t := true) (by rw [eval_tmp, h4.kn (30, .bool (chk X Y Z len != 0)) (by simp)]; simp [hc]) ?_
    refine wpIn_seq (v5 n (Has.stable _ _) (fun m w _ => works_in m w) _ a4 w3 ((h4.sg hG3).sub (by simp)) ?_)
    intro a5 w5 h5
    exact wpIn_ret (ret _ a5 w5 h5)
end Go.Proofs.Ytmgiabehooghcaa
