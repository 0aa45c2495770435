/- Glow: the walk of a law. -/
import Derived.RangeFuncNested
import Derived.RangeFuncBound
import Derived.RangeFuncCalls
import Derived.RangeFuncLeaves
import Derived.Shelf.Abstract
import Derived.Shelf.RegionOpen
import Derived.WalkKit
import Derived.OwnWalkIn
import Derived.TacticsInMore
import Derived.LoopNIn
import Derived.LoopIn
import Derived.Lib.Hide
import Derived.IntWalk
import Derived.Maps.AppendAt
import Derived.Test.YtmgiabehooghcaaKc
import Derived.Test.YtmgiabehooghcaaGin
import Derived.Test.YtmgiabehooghcaaH5
namespace Go.Proofs.Ytmgiabehooghcaa
open Go.RowKit Go.Shelf
attribute [local go_sem] Oper.semAt_some

/-! ### GlowSteps: its parts -/
noncomputable def C4 : Code := Try.f4.body.getD .skip
set_option maxRecDepth 100000 in
set_option maxHeartbeats 4000000 in
theorem p0 (n : Nat) (W : World) (X Y Z : Int) (cv : Value) (Q : Exit → Act → World → Prop) (a : Act) (h0 : SR [(0, .agg #[.int .i64 X, .int .i64 Y, .int .i64 Z, cv])] 120 [] W a W)
    (hQ : ∀ a, SR [(1, .pointer (some ⟨W.heap.size, 0, none⟩))] 120 [] (W.alloc (.cells #[.int .i64 X, .int .i64 Y, .int .i64 Z, cv] 24)) a (W.alloc (.cells #[.int .i64 X, .int .i64 Y, .int .i64 Z, cv] 24)) → Q .normal a (W.alloc (.cells #[.int .i64 X, .int .i64 Y, .int .i64 Z, cv] 24))) : (regOf 0 C4).wpIn Fence.wide n Try.prog Q a W := by
  simp only [regOf, C4, Try.f4, Option.getD, Nat.reduceBEq, Bool.false_eq_true, if_true, if_false]
  refine region_sq (fun k_ a w => match k_ with | 0 => SR [(0, .agg #[.int .i64 X, .int .i64 Y, .int .i64 Z, cv])] 120 [] (W) a w | 1 => SR [(1, .pointer (some ⟨W.heap.size, 0, none⟩))] 120 [] (W.alloc (.cells #[.int .i64 X, .int .i64 Y, .int .i64 Z, cv] 24)) a w | _ => SR [(1, .pointer (some ⟨W.heap.size, 0, none⟩))] 120 [] (W.alloc (.cells #[.int .i64 X, .int .i64 Y, .int .i64 Z, cv] 24)) a w) (show SR _ _ _ _ a W from h0) ⟨?_, ?_, trivial⟩ ?_
  · intro a w hI
    have hI : SR _ _ _ _ a w := hI
    have e0 := hI.g 0 rfl
    have hw : w = W := hI.wp
    subst hw
    go_simp
    exact hI.put (d := 1) (by decide) (by simp)
  · intro a w hI
    have hI : SR _ _ _ _ a w := hI
    obtain rfl := hI.wp
    go_simp
    exact hI.put (d := 2) (by decide) (by simp)
  · intro a w hI
    have hI : SR _ _ _ _ a w := hI
    obtain rfl := hI.wp
    exact hQ a hI
set_option maxRecDepth 100000 in
set_option maxHeartbeats 4000000 in
theorem p1 (n : Nat) (W : World) (B : Nat) (sp : Option Addr) (len cap : Nat) (c3 : W.cell? ⟨B, 3, none⟩ = some (.slice sp len cap)) (Q : Exit → Act → World → Prop) (a : Act) (h0 : SR [(1, .pointer (some ⟨B, 0, none⟩))] 120 [] W a W)
    (hQ : ∀ a, SR [(1, .pointer (some ⟨B, 0, none⟩)), (14, .bool (decide ((6000 : Int) < len)))] 120 [] (W) a (W) → Q .normal a (W)) : (regOf 1 C4).wpIn Fence.wide n Try.prog Q a W := by
  simp only [regOf, C4, Try.f4, Option.getD, Nat.reduceBEq, Bool.false_eq_true, if_true, if_false]
  refine region_sq (fun k_ a w => match k_ with | 0 => SR [(1, .pointer (some ⟨B, 0, none⟩))] 120 [] (W) a w | 1 => SR [(1, .pointer (some ⟨B, 0, none⟩)), (11, .pointer (some ⟨B, 3, none⟩))] 120 [] (W) a w | 2 => SR [(1, .pointer (some ⟨B, 0, none⟩)), (12, .slice sp len cap)] 120 [] (W) a w | 3 => SR [(1, .pointer (some ⟨B, 0, none⟩)), (13, .int .i64 len)] 120 [] (W) a w | _ => SR [(1, .pointer (some ⟨B, 0, none⟩)), (14, .bool (decide ((6000 : Int) < len)))] 120 [] (W) a w) (show SR _ _ _ _ a W from h0) ⟨?_, ?_, ?_, ?_, trivial⟩ ?_
  · intro a w hI
    have hI : SR _ _ _ _ a w := hI
    have e1 := hI.g 1 rfl
    have hw : w = W := hI.wp
    subst hw
    go_simp
    exact hI.put (d := 11) (by decide) (by simp)
  · intro a w hI
    have hI : SR _ _ _ _ a w := hI
    have e11 := hI.g 11 rfl
    have hw : w = W := hI.wp
    subst hw
    go_simp
    exact hI.put (d := 12) (by decide) (by simp)
  · intro a w hI
    have hI : SR _ _ _ _ a w := hI
    have e12 := hI.g 12 rfl
    have hw : w = W := hI.wp
    subst hw
    go_simp
    exact hI.put (d := 13) (by decide) (by simp)
  · intro a w hI
    have hI : SR _ _ _ _ a w := hI
    have e13 := hI.g 13 rfl
    have hw : w = W := hI.wp
    subst hw
    go_simp
    exact hI.put (d := 14) (by decide) (by simp)
  · intro a w hI
    have hI : SR _ _ _ _ a w := hI
    have hw : w = W := hI.wp
    subst hw
    exact hQ a hI
set_option maxRecDepth 100000 in
set_option maxHeartbeats 4000000 in
theorem p2 (n : Nat) {G : World → Prop} (hS : Stable G)  (hw : ∀ m w, G w → CallsIn Fence.wide m Try.prog 13 #[] w fun e w' => e = .returned (.bool true) ∧ Below w.heap.size w w') (Q : Exit → Act → World → Prop) (a : Act) (w : World) (h0 : SG [] 120 G a w)
    (hQ : ∀ a w, SG [(2, .bool true)] 120 G a w → Q .normal a w) : (regOf 2 C4).wpIn Fence.wide n Try.prog Q a w := by
  simp only [regOf, C4, Try.f4, Option.getD, Nat.reduceBEq, Bool.false_eq_true, if_true, if_false]
  refine region_sq (fun k_ a w => match k_ with | 0 => SG [] 120 G a w | 1 => SG [(15, .bool true)] 120 G a w | _ => SG [(2, .bool true)] 120 G a w) (show SG _ _ G a w from h0) ⟨?_, ?_, trivial⟩ ?_
  · intro a w hI
    have hI : SG _ _ G a w := hI
    go_simp
    refine ⟨trivial, fun h => (by cases h), (hw (n - 1) w hI.wp).mono ?_⟩
    rintro e w' ⟨rfl, hb2⟩
    exact hI.put (d := 15) (by decide) (by simp) (hS _ _ hI.wp hb2)
  · intro a w hI
    have hI : SG _ _ G a w := hI
    have e15 := hI.g 15 rfl
    go_simp
    exact hI.put (d := 2) (by decide) (by simp) hI.wp
  · intro a w hI
    have hI : SG _ _ G a w := hI
    exact hQ a w hI
set_option maxRecDepth 100000 in
set_option maxHeartbeats 4000000 in
theorem p3b (n : Nat) {G : World → Prop} (hS : Stable G) (B : Nat) (X Y Z : Int) (sp : Option Addr) (len cap : Nat) (er : Int) (c0 : ∀ w, G w → w.cell? ⟨B, 0, none⟩ = some (.int .i64 X)) (c1 : ∀ w, G w → w.cell? ⟨B, 1, none⟩ = some (.int .i64 Y)) (c2 : ∀ w, G w → w.cell? ⟨B, 2, none⟩ = some (.int .i64 Z)) (c3 : ∀ w, G w → w.cell? ⟨B, 3, none⟩ = some (.slice sp len cap)) (hc : ∀ m w, G w → CallsIn Fence.wide m Try.prog 14 #[.agg #[.int .i64 X, .int .i64 Y, .int .i64 Z, .slice sp len cap]] w fun e w' => e = .returned (.tuple #[.slice none 0 0, .int .i64 er]) ∧ Below w.heap.size w w') (Q : Exit → Act → World → Prop) (a : Act) (w : World) (h0 : SG [(1, .pointer (some ⟨B, 0, none⟩))] 120 G a w)
    (hQ : ∀ a w, SG [(1, .pointer (some ⟨B, 0, none⟩)), (4, .int .i64 er)] 120 G a w → Q .normal a w) : (regOf 3 C4).wpIn Fence.wide n Try.prog Q a w := by
  simp only [regOf, C4, Try.f4, Option.getD, Nat.reduceBEq, Bool.false_eq_true, if_true, if_false]
  refine region_sq (fun k_ a w => match k_ with | 0 => SG [(1, .pointer (some ⟨B, 0, none⟩))] 120 G a w | 1 => SG [(1, .pointer (some ⟨B, 0, none⟩)), (17, .agg #[.int .i64 X, .int .i64 Y, .int .i64 Z, .slice sp len cap])] 120 G a w | 2 => SG [(1, .pointer (some ⟨B, 0, none⟩)), (18, .tuple #[.slice none 0 0, .int .i64 er])] 120 G a w | 3 => SG [(1, .pointer (some ⟨B, 0, none⟩)), (16, .tuple #[.slice none 0 0, .int .i64 er])] 120 G a w | 4 => SG [(1, .pointer (some ⟨B, 0, none⟩)), (16, .tuple #[.slice none 0 0, .int .i64 er]), (19, .slice none 0 0)] 120 G a w | 5 => SG [(1, .pointer (some ⟨B, 0, none⟩)), (19, .slice none 0 0), (20, .int .i64 er)] 120 G a w | 6 => SG [(1, .pointer (some ⟨B, 0, none⟩)), (20, .int .i64 er)] 120 G a w | _ => SG [(1, .pointer (some ⟨B, 0, none⟩)), (4, .int .i64 er)] 120 G a w) (show SG _ _ G a w from h0) ⟨?_, ?_, ?_, ?_, ?_, ?_, ?_, trivial⟩ ?_
  · intro a w hI
    have hI : SG _ _ G a w := hI
    have e1 := hI.g 1 rfl
    have cc0 := c0 w hI.wp
    have cc1 := c1 w hI.wp
    have cc2 := c2 w hI.wp
    have cc3 := c3 w hI.wp
    go_simp
    exact hI.put (d := 17) (by decide) (by simp) hI.wp
  · intro a w hI
    have hI : SG _ _ G a w := hI
    have e17 := hI.g 17 rfl
    go_simp
    refine ⟨trivial, fun h => (by cases h), (hc (n - 1) w hI.wp).mono ?_⟩
    rintro e w' ⟨rfl, hb2⟩
    exact hI.put (d := 18) (by decide) (by simp) (hS _ _ hI.wp hb2)
  · intro a w hI
    have hI : SG _ _ G a w := hI
    have e18 := hI.g 18 rfl
    go_simp
    exact hI.put (d := 16) (by decide) (by simp) hI.wp
  · intro a w hI
    have hI : SG _ _ G a w := hI
    have e16 := hI.g 16 rfl
    go_simp
    exact hI.put (d := 19) (by decide) (by simp) hI.wp
  · intro a w hI
    have hI : SG _ _ G a w := hI
    have e16 := hI.g 16 rfl
    go_simp
    exact hI.put (d := 20) (by decide) (by simp) hI.wp
  · intro a w hI
    have hI : SG _ _ G a w := hI
    have e19 := hI.g 19 rfl
    go_simp
    exact hI.put (d := 3) (by decide) (by simp) hI.wp
  · intro a w hI
    have hI : SG _ _ G a w := hI
    have e20 := hI.g 20 rfl
    go_simp
    exact hI.put (d := 4) (by decide) (by simp) hI.wp
  · intro a w hI
    have hI : SG _ _ G a w := hI
    exact hQ a w hI
set_option maxRecDepth 100000 in
set_option maxHeartbeats 4000000 in
theorem p3 (n : Nat) {G : World → Prop} (B : Nat) (X Y Z : Int) (sp : Option Addr) (len cap : Nat) (N : Nat) (G1 : Nat → World → Prop) (c0 : ∀ w, G w → w.cell? ⟨B, 0, none⟩ = some (.int .i64 X)) (c1 : ∀ w, G w → w.cell? ⟨B, 1, none⟩ = some (.int .i64 Y)) (c2 : ∀ w, G w → w.cell? ⟨B, 2, none⟩ = some (.int .i64 Z)) (c3 : ∀ w, G w → w.cell? ⟨B, 3, none⟩ = some (.slice sp len cap)) (hc : ∀ m w, G w → CallsIn Fence.wide m Try.prog 14 #[.agg #[.int .i64 X, .int .i64 Y, .int .i64 Z, .slice sp len cap]] w fun e w' => ∃ (r : Nat), e = .returned (.tuple #[.slice (some ⟨r, 0, none⟩) N N, .int .i64 0]) ∧ (G1 r) w') (Q : Exit → Act → World → Prop) (a : Act) (w : World) (h0 : SG [(1, .pointer (some ⟨B, 0, none⟩))] 120 G a w)
    (hQ : ∀ (r : Nat) a w, SG [(1, .pointer (some ⟨B, 0, none⟩)), (3, .slice (some ⟨r, 0, none⟩) N N), (4, .int .i64 0)] 120 (G1 r) a w → Q .normal a w) : (regOf 3 C4).wpIn Fence.wide n Try.prog Q a w := by
  simp only [regOf, C4, Try.f4, Option.getD, Nat.reduceBEq, Bool.false_eq_true, if_true, if_false]
  refine region_sq (fun k_ a w => match k_ with | 0 => SG [(1, .pointer (some ⟨B, 0, none⟩))] 120 G a w | 1 => SG [(1, .pointer (some ⟨B, 0, none⟩)), (17, .agg #[.int .i64 X, .int .i64 Y, .int .i64 Z, .slice sp len cap])] 120 G a w | 2 => ∃ (r : Nat), SG [(1, .pointer (some ⟨B, 0, none⟩)), (18, .tuple #[.slice (some ⟨r, 0, none⟩) N N, .int .i64 0])] 120 (G1 r) a w | 3 => ∃ (r : Nat), SG [(1, .pointer (some ⟨B, 0, none⟩)), (16, .tuple #[.slice (some ⟨r, 0, none⟩) N N, .int .i64 0])] 120 (G1 r) a w | 4 => ∃ (r : Nat), SG [(1, .pointer (some ⟨B, 0, none⟩)), (16, .tuple #[.slice (some ⟨r, 0, none⟩) N N, .int .i64 0]), (19, .slice (some ⟨r, 0, none⟩) N N)] 120 (G1 r) a w | 5 => ∃ (r : Nat), SG [(1, .pointer (some ⟨B, 0, none⟩)), (19, .slice (some ⟨r, 0, none⟩) N N), (20, .int .i64 0)] 120 (G1 r) a w | 6 => ∃ (r : Nat), SG [(1, .pointer (some ⟨B, 0, none⟩)), (20, .int .i64 0), (3, .slice (some ⟨r, 0, none⟩) N N)] 120 (G1 r) a w | _ => ∃ (r : Nat), SG [(1, .pointer (some ⟨B, 0, none⟩)), (3, .slice (some ⟨r, 0, none⟩) N N), (4, .int .i64 0)] 120 (G1 r) a w) (show SG _ _ G a w from h0) ⟨?_, ?_, ?_, ?_, ?_, ?_, ?_, trivial⟩ ?_
  · intro a w hI
    have hI : SG _ _ G a w := hI
    have e1 := hI.g 1 rfl
    have cc0 := c0 w hI.wp
    have cc1 := c1 w hI.wp
    have cc2 := c2 w hI.wp
    have cc3 := c3 w hI.wp
    go_simp
    exact hI.put (d := 17) (by decide) (by simp) hI.wp
  · intro a w hI
    have hI : SG _ _ G a w := hI
    have e17 := hI.g 17 rfl
    go_simp
    refine ⟨trivial, fun h => (by cases h), (hc (n - 1) w hI.wp).mono ?_⟩
    rintro e w' ⟨r, rfl, hg2⟩
    exact ⟨r, hI.put (d := 18) (by decide) (by simp) hg2⟩
  · rintro a w ⟨r, hI⟩
    have e18 := hI.g 18 rfl
    go_simp
    exact ⟨r, hI.put (d := 16) (by decide) (by simp) hI.wp⟩
  · rintro a w ⟨r, hI⟩
    have e16 := hI.g 16 rfl
    go_simp
    exact ⟨r, hI.put (d := 19) (by decide) (by simp) hI.wp⟩
  · rintro a w ⟨r, hI⟩
    have e16 := hI.g 16 rfl
    go_simp
    exact ⟨r, hI.put (d := 20) (by decide) (by simp) hI.wp⟩
  · rintro a w ⟨r, hI⟩
    have e19 := hI.g 19 rfl
    go_simp
    exact ⟨r, hI.put (d := 3) (by decide) (by simp) hI.wp⟩
  · rintro a w ⟨r, hI⟩
    have e20 := hI.g 20 rfl
    go_simp
    exact ⟨r, hI.put (d := 4) (by decide) (by simp) hI.wp⟩
  · rintro a w ⟨r, hI⟩
    exact hQ r a w hI
set_option maxRecDepth 100000 in
set_option maxHeartbeats 4000000 in
theorem p4 (n : Nat) (W : World) (B : Nat) (er : Int) (Q : Exit → Act → World → Prop) (a : Act) (h0 : SR [(1, .pointer (some ⟨B, 0, none⟩)), (4, .int .i64 er)] 120 [] W a W)
    (hQ : ∀ a, SR [(1, .pointer (some ⟨B, 0, none⟩)), (22, .bool (er != 0))] 120 [] (W) a (W) → Q .normal a (W)) : (regOf 4 C4).wpIn Fence.wide n Try.prog Q a W := by
  simp only [regOf, C4, Try.f4, Option.getD, Nat.reduceBEq, Bool.false_eq_true, if_true, if_false]
  refine region_sq (fun k_ a w => match k_ with | 0 => SR [(1, .pointer (some ⟨B, 0, none⟩)), (4, .int .i64 er)] 120 [] (W) a w | 1 => SR [(1, .pointer (some ⟨B, 0, none⟩)), (21, .int .i64 er)] 120 [] (W) a w | _ => SR [(1, .pointer (some ⟨B, 0, none⟩)), (22, .bool (er != 0))] 120 [] (W) a w) (show SR _ _ _ _ a W from h0) ⟨?_, ?_, trivial⟩ ?_
  · intro a w hI
    have hI : SR _ _ _ _ a w := hI
    have e4 := hI.g 4 rfl
    have hw : w = W := hI.wp
    subst hw
    go_simp
    exact hI.put (d := 21) (by decide) (by simp)
  · intro a w hI
    have hI : SR _ _ _ _ a w := hI
    have e21 := hI.g 21 rfl
    have hw : w = W := hI.wp
    subst hw
    go_simp
    exact hI.put (d := 22) (by decide) (by simp)
  · intro a w hI
    have hI : SR _ _ _ _ a w := hI
    have hw : w = W := hI.wp
    subst hw
    exact hQ a hI
set_option maxRecDepth 100000 in
set_option maxHeartbeats 4000000 in
theorem p4g (n : Nat) (W : World) (B r N : Nat) (er : Int) (Q : Exit → Act → World → Prop) (a : Act) (h0 : SR [(1, .pointer (some ⟨B, 0, none⟩)), (3, .slice (some ⟨r, 0, none⟩) N N), (4, .int .i64 er)] 120 [] W a W)
    (hQ : ∀ a, SR [(1, .pointer (some ⟨B, 0, none⟩)), (3, .slice (some ⟨r, 0, none⟩) N N), (22, .bool (er != 0))] 120 [] (W) a (W) → Q .normal a (W)) : (regOf 4 C4).wpIn Fence.wide n Try.prog Q a W := by
  simp only [regOf, C4, Try.f4, Option.getD, Nat.reduceBEq, Bool.false_eq_true, if_true, if_false]
  refine region_sq (fun k_ a w => match k_ with | 0 => SR [(1, .pointer (some ⟨B, 0, none⟩)), (3, .slice (some ⟨r, 0, none⟩) N N), (4, .int .i64 er)] 120 [] (W) a w | 1 => SR [(1, .pointer (some ⟨B, 0, none⟩)), (3, .slice (some ⟨r, 0, none⟩) N N), (21, .int .i64 er)] 120 [] (W) a w | _ => SR [(1, .pointer (some ⟨B, 0, none⟩)), (3, .slice (some ⟨r, 0, none⟩) N N), (22, .bool (er != 0))] 120 [] (W) a w) (show SR _ _ _ _ a W from h0) ⟨?_, ?_, trivial⟩ ?_
  · intro a w hI
    have hI : SR _ _ _ _ a w := hI
    have e4 := hI.g 4 rfl
    have hw : w = W := hI.wp
    subst hw
    go_simp
    exact hI.put (d := 21) (by decide) (by simp)
  · intro a w hI
    have hI : SR _ _ _ _ a w := hI
    have e21 := hI.g 21 rfl
    have hw : w = W := hI.wp
    subst hw
    go_simp
    exact hI.put (d := 22) (by decide) (by simp)
  · intro a w hI
    have hI : SR _ _ _ _ a w := hI
    have hw : w = W := hI.wp
    subst hw
    exact hQ a hI
set_option maxRecDepth 100000 in
set_option maxHeartbeats 4000000 in
theorem p5 (n : Nat) {G : World → Prop} (hS : Stable G)  (hw : ∀ m w, G w → CallsIn Fence.wide m Try.prog 13 #[] w fun e w' => e = .returned (.bool true) ∧ Below w.heap.size w w') (Q : Exit → Act → World → Prop) (a : Act) (w : World) (h0 : SG [] 120 G a w)
    (hQ : ∀ a w, SG [(2, .bool true)] 120 G a w → Q .normal a w) : (regOf 5 C4).wpIn Fence.wide n Try.prog Q a w := by
  simp only [regOf, C4, Try.f4, Option.getD, Nat.reduceBEq, Bool.false_eq_true, if_true, if_false]
  refine region_sq (fun k_ a w => match k_ with | 0 => SG [] 120 G a w | 1 => SG [(23, .bool true)] 120 G a w | _ => SG [(2, .bool true)] 120 G a w) (show SG _ _ G a w from h0) ⟨?_, ?_, trivial⟩ ?_
  · intro a w hI
    have hI : SG _ _ G a w := hI
    go_simp
    refine ⟨trivial, fun h => (by cases h), (hw (n - 1) w hI.wp).mono ?_⟩
    rintro e w' ⟨rfl, hb2⟩
    exact hI.put (d := 23) (by decide) (by simp) (hS _ _ hI.wp hb2)
  · intro a w hI
    have hI : SG _ _ G a w := hI
    have e23 := hI.g 23 rfl
    go_simp
    exact hI.put (d := 2) (by decide) (by simp) hI.wp
  · intro a w hI
    have hI : SG _ _ G a w := hI
    exact hQ a w hI
set_option maxRecDepth 100000 in
set_option maxHeartbeats 4000000 in
theorem p6 (n : Nat) (W : World) (B r N : Nat) (sp : Option Addr) (cap : Nat) (c3 : W.cell? ⟨B, 3, none⟩ = some (.slice sp N cap)) (Q : Exit → Act → World → Prop) (a : Act) (h0 : SR [(1, .pointer (some ⟨B, 0, none⟩)), (3, .slice (some ⟨r, 0, none⟩) N N)] 120 [] W a W)
    (hQ : ∀ a, SR [(1, .pointer (some ⟨B, 0, none⟩)), (3, .slice (some ⟨r, 0, none⟩) N N), (29, .bool false)] 120 [] (W) a (W) → Q .normal a (W)) : (regOf 6 C4).wpIn Fence.wide n Try.prog Q a W := by
  simp only [regOf, C4, Try.f4, Option.getD, Nat.reduceBEq, Bool.false_eq_true, if_true, if_false]
  refine region_sq (fun k_ a w => match k_ with | 0 => SR [(1, .pointer (some ⟨B, 0, none⟩)), (3, .slice (some ⟨r, 0, none⟩) N N)] 120 [] (W) a w | 1 => SR [(1, .pointer (some ⟨B, 0, none⟩)), (3, .slice (some ⟨r, 0, none⟩) N N), (24, .slice (some ⟨r, 0, none⟩) N N)] 120 [] (W) a w | 2 => SR [(1, .pointer (some ⟨B, 0, none⟩)), (3, .slice (some ⟨r, 0, none⟩) N N), (25, .int .i64 N)] 120 [] (W) a w | 3 => SR [(1, .pointer (some ⟨B, 0, none⟩)), (3, .slice (some ⟨r, 0, none⟩) N N), (25, .int .i64 N), (26, .pointer (some ⟨B, 3, none⟩))] 120 [] (W) a w | 4 => SR [(1, .pointer (some ⟨B, 0, none⟩)), (3, .slice (some ⟨r, 0, none⟩) N N), (25, .int .i64 N), (27, .slice sp N cap)] 120 [] (W) a w | 5 => SR [(1, .pointer (some ⟨B, 0, none⟩)), (3, .slice (some ⟨r, 0, none⟩) N N), (25, .int .i64 N), (28, .int .i64 N)] 120 [] (W) a w | _ => SR [(1, .pointer (some ⟨B, 0, none⟩)), (3, .slice (some ⟨r, 0, none⟩) N N), (29, .bool false)] 120 [] (W) a w) (show SR _ _ _ _ a W from h0) ⟨?_, ?_, ?_, ?_, ?_, ?_, trivial⟩ ?_
  · intro a w hI
    have hI : SR _ _ _ _ a w := hI
    have e3 := hI.g 3 rfl
    have hw : w = W := hI.wp
    subst hw
    go_simp
    exact hI.put (d := 24) (by decide) (by simp)
  · intro a w hI
    have hI : SR _ _ _ _ a w := hI
    have e24 := hI.g 24 rfl
    have hw : w = W := hI.wp
    subst hw
    go_simp
    exact hI.put (d := 25) (by decide) (by simp)
  · intro a w hI
    have hI : SR _ _ _ _ a w := hI
    have e1 := hI.g 1 rfl
    have hw : w = W := hI.wp
    subst hw
    go_simp
    exact hI.put (d := 26) (by decide) (by simp)
  · intro a w hI
    have hI : SR _ _ _ _ a w := hI
    have e26 := hI.g 26 rfl
    have hw : w = W := hI.wp
    subst hw
    go_simp
    exact hI.put (d := 27) (by decide) (by simp)
  · intro a w hI
    have hI : SR _ _ _ _ a w := hI
    have e27 := hI.g 27 rfl
    have hw : w = W := hI.wp
    subst hw
    go_simp
    exact hI.put (d := 28) (by decide) (by simp)
  · intro a w hI
    have hI : SR _ _ _ _ a w := hI
    have e25 := hI.g 25 rfl
    have e28 := hI.g 28 rfl
    have hw : w = W := hI.wp
    subst hw
    go_simp
    exact hI.put (d := 29) (by decide) (by simp)
  · intro a w hI
    have hI : SR _ _ _ _ a w := hI
    have hw : w = W := hI.wp
    subst hw
    exact hQ a hI
set_option maxRecDepth 100000 in
set_option maxHeartbeats 4000000 in
theorem p8 (n : Nat) (W : World) (B r N : Nat) (Q : Exit → Act → World → Prop) (a : Act) (h0 : SR [(1, .pointer (some ⟨B, 0, none⟩)), (3, .slice (some ⟨r, 0, none⟩) N N)] 120 [] W a W)
    (hQ : ∀ a, SR [(1, .pointer (some ⟨B, 0, none⟩)), (3, .slice (some ⟨r, 0, none⟩) N N), (5, .int .i64 0)] 120 [] (W) a (W) → Q .normal a (W)) : (regOf 8 C4).wpIn Fence.wide n Try.prog Q a W := by
  simp only [regOf, C4, Try.f4, Option.getD, Nat.reduceBEq, Bool.false_eq_true, if_true, if_false]
  refine region_sq (fun k_ a w => match k_ with | 0 => SR [(1, .pointer (some ⟨B, 0, none⟩)), (3, .slice (some ⟨r, 0, none⟩) N N)] 120 [] (W) a w | _ => SR [(1, .pointer (some ⟨B, 0, none⟩)), (3, .slice (some ⟨r, 0, none⟩) N N), (5, .int .i64 0)] 120 [] (W) a w) (show SR _ _ _ _ a W from h0) ⟨?_, trivial⟩ ?_
  · intro a w hI
    have hI : SR _ _ _ _ a w := hI
    have hw : w = W := hI.wp
    subst hw
    go_simp
    exact hI.put (d := 5) (by decide) (by simp)
  · intro a w hI
    have hI : SR _ _ _ _ a w := hI
    have hw : w = W := hI.wp
    subst hw
    exact hQ a hI
set_option maxRecDepth 100000 in
set_option maxHeartbeats 4000000 in
theorem p9 (n : Nat) (W : World) (B r N i : Nat) (Q : Exit → Act → World → Prop) (a : Act) (h0 : SR [(1, .pointer (some ⟨B, 0, none⟩)), (3, .slice (some ⟨r, 0, none⟩) N N), (5, .int .i64 i)] 120 [] W a W)
    (hQ : ∀ a, SR [(1, .pointer (some ⟨B, 0, none⟩)), (3, .slice (some ⟨r, 0, none⟩) N N), (5, .int .i64 i), (33, .bool (decide (i < N)))] 120 [] (W) a (W) → Q .normal a (W)) : (regOf 9 C4).wpIn Fence.wide n Try.prog Q a W := by
  simp only [regOf, C4, Try.f4, Option.getD, Nat.reduceBEq, Bool.false_eq_true, if_true, if_false]
  refine region_sq (fun k_ a w => match k_ with | 0 => SR [(1, .pointer (some ⟨B, 0, none⟩)), (3, .slice (some ⟨r, 0, none⟩) N N), (5, .int .i64 i)] 120 [] (W) a w | 1 => SR [(1, .pointer (some ⟨B, 0, none⟩)), (3, .slice (some ⟨r, 0, none⟩) N N), (5, .int .i64 i), (30, .int .i64 i)] 120 [] (W) a w | 2 => SR [(1, .pointer (some ⟨B, 0, none⟩)), (3, .slice (some ⟨r, 0, none⟩) N N), (5, .int .i64 i), (30, .int .i64 i), (31, .slice (some ⟨r, 0, none⟩) N N)] 120 [] (W) a w | 3 => SR [(1, .pointer (some ⟨B, 0, none⟩)), (3, .slice (some ⟨r, 0, none⟩) N N), (5, .int .i64 i), (30, .int .i64 i), (32, .int .i64 N)] 120 [] (W) a w | _ => SR [(1, .pointer (some ⟨B, 0, none⟩)), (3, .slice (some ⟨r, 0, none⟩) N N), (5, .int .i64 i), (33, .bool (decide (i < N)))] 120 [] (W) a w) (show SR _ _ _ _ a W from h0) ⟨?_, ?_, ?_, ?_, trivial⟩ ?_
  · intro a w hI
    have hI : SR _ _ _ _ a w := hI
    have e5 := hI.g 5 rfl
    have hw : w = W := hI.wp
    subst hw
    go_simp
    exact hI.put (d := 30) (by decide) (by simp)
  · intro a w hI
    have hI : SR _ _ _ _ a w := hI
    have e3 := hI.g 3 rfl
    have hw : w = W := hI.wp
    subst hw
    go_simp
    exact hI.put (d := 31) (by decide) (by simp)
  · intro a w hI
    have hI : SR _ _ _ _ a w := hI
    have e31 := hI.g 31 rfl
    have hw : w = W := hI.wp
    subst hw
    go_simp
    exact hI.put (d := 32) (by decide) (by simp)
  · intro a w hI
    have hI : SR _ _ _ _ a w := hI
    have e30 := hI.g 30 rfl
    have e32 := hI.g 32 rfl
    have hw : w = W := hI.wp
    subst hw
    go_simp
    exact hI.put (d := 33) (by decide) (by simp)
  · intro a w hI
    have hI : SR _ _ _ _ a w := hI
    have hw : w = W := hI.wp
    subst hw
    exact hQ a hI
set_option maxRecDepth 100000 in
set_option maxHeartbeats 4000000 in
theorem p10 (n : Nat) (W : World) (B r N i : Nat) (hi : i < 9000000000) (Q : Exit → Act → World → Prop) (a : Act) (h0 : SR [(1, .pointer (some ⟨B, 0, none⟩)), (3, .slice (some ⟨r, 0, none⟩) N N), (5, .int .i64 i)] 120 [] W a W)
    (hQ : ∀ a, SR [(1, .pointer (some ⟨B, 0, none⟩)), (3, .slice (some ⟨r, 0, none⟩) N N), (5, .int .i64 ((i : Int) + 1))] 120 [] (W) a (W) → Q .normal a (W)) : (regOf 10 C4).wpIn Fence.wide n Try.prog Q a W := by
  simp only [regOf, C4, Try.f4, Option.getD, Nat.reduceBEq, Bool.false_eq_true, if_true, if_false]
  refine region_sq (fun k_ a w => match k_ with | 0 => SR [(1, .pointer (some ⟨B, 0, none⟩)), (3, .slice (some ⟨r, 0, none⟩) N N), (5, .int .i64 i)] 120 [] (W) a w | 1 => SR [(1, .pointer (some ⟨B, 0, none⟩)), (3, .slice (some ⟨r, 0, none⟩) N N), (34, .int .i64 i)] 120 [] (W) a w | 2 => SR [(1, .pointer (some ⟨B, 0, none⟩)), (3, .slice (some ⟨r, 0, none⟩) N N), (35, .int .i64 ((i : Int) + 1))] 120 [] (W) a w | _ => SR [(1, .pointer (some ⟨B, 0, none⟩)), (3, .slice (some ⟨r, 0, none⟩) N N), (5, .int .i64 ((i : Int) + 1))] 120 [] (W) a w) (show SR _ _ _ _ a W from h0) ⟨?_, ?_, ?_, trivial⟩ ?_
  · intro a w hI
    have hI : SR _ _ _ _ a w := hI
    have e5 := hI.g 5 rfl
    have hw : w = W := hI.wp
    subst hw
    go_simp
    exact hI.put (d := 34) (by decide) (by simp)
  · intro a w hI
    have hI : SR _ _ _ _ a w := hI
    have e34 := hI.g 34 rfl
    have hw : w = W := hI.wp
    subst hw
    have hw1 : IntKind.i64.wrap ((i : Int) + 1) = (i : Int) + 1 := IntWalk.i64_in _ (by omega)
    go_simp
    exact hI.put (d := 35) (by decide) (by simp)
  · intro a w hI
    have hI : SR _ _ _ _ a w := hI
    have e35 := hI.g 35 rfl
    have hw : w = W := hI.wp
    subst hw
    go_simp
    exact hI.put (d := 5) (by decide) (by simp)
  · intro a w hI
    have hI : SR _ _ _ _ a w := hI
    have hw : w = W := hI.wp
    subst hw
    exact hQ a hI
set_option maxRecDepth 100000 in
set_option maxHeartbeats 4000000 in
theorem p11 (n : Nat) (W : World) (B r N i : Nat) (Q : Exit → Act → World → Prop) (a : Act) (h0 : SR [(1, .pointer (some ⟨B, 0, none⟩)), (3, .slice (some ⟨r, 0, none⟩) N N), (5, .int .i64 i)] 120 [] W a W)
    (hQ : ∀ a, SR [(1, .pointer (some ⟨B, 0, none⟩)), (3, .slice (some ⟨r, 0, none⟩) N N), (5, .int .i64 i), (6, .pointer (some ⟨W.heap.size, 0, none⟩))] 120 [] (W.alloc (.cells #[.int .u8 0, .int .u8 0] 37)) a (W.alloc (.cells #[.int .u8 0, .int .u8 0] 37)) → Q .normal a (W.alloc (.cells #[.int .u8 0, .int .u8 0] 37))) : (regOf 11 C4).wpIn Fence.wide n Try.prog Q a W := by
  simp only [regOf, C4, Try.f4, Option.getD, Nat.reduceBEq, Bool.false_eq_true, if_true, if_false]
  refine region_sq (fun k_ a w => match k_ with | 0 => SR [(1, .pointer (some ⟨B, 0, none⟩)), (3, .slice (some ⟨r, 0, none⟩) N N), (5, .int .i64 i)] 120 [] (W) a w | 1 => SR [(1, .pointer (some ⟨B, 0, none⟩)), (3, .slice (some ⟨r, 0, none⟩) N N), (5, .int .i64 i), (36, .agg #[.int .u8 0, .int .u8 0])] 120 [] (W) a w | 2 => SR [(1, .pointer (some ⟨B, 0, none⟩)), (3, .slice (some ⟨r, 0, none⟩) N N), (5, .int .i64 i), (36, .agg #[.int .u8 0, .int .u8 0]), (6, .pointer (some ⟨W.heap.size, 0, none⟩))] 120 [] (W.alloc (.cells #[.int .u8 0, .int .u8 0] 37)) a w | _ => SR [(1, .pointer (some ⟨B, 0, none⟩)), (3, .slice (some ⟨r, 0, none⟩) N N), (5, .int .i64 i), (6, .pointer (some ⟨W.heap.size, 0, none⟩))] 120 [] (W.alloc (.cells #[.int .u8 0, .int .u8 0] 37)) a w) (show SR _ _ _ _ a W from h0) ⟨?_, ?_, ?_, trivial⟩ ?_
  · intro a w hI
    have hI : SR _ _ _ _ a w := hI
    have hw : w = W := hI.wp
    subst hw
    go_simp
    exact hI.put (d := 36) (by decide) (by simp)
  · intro a w hI
    have hI : SR _ _ _ _ a w := hI
    have hw : w = W := hI.wp
    subst hw
    go_simp
    exact hI.put (d := 6) (by decide) (by simp)
  · intro a w hI
    have hI : SR _ _ _ _ a w := hI
    have e6 := hI.g 6 rfl
    have e36 := hI.g 36 rfl
    obtain rfl := hI.wp
    have hn0 := cell2_new W 37 (.int .u8 0) (.int .u8 0)
    obtain ⟨hn1, hn2, hn3, hn5⟩ := hn0
    have hn4 := alloc_set2 W 37 (.int .u8 0) (.int .u8 0) (.int .u8 0) (.int .u8 0)
    go_simp
    exact hI.none.sub (by intro p hp; simp only [List.mem_cons, List.not_mem_nil, or_false] at hp ⊢; rcases hp with h | h | h | h <;> simp [h])
  · intro a w hI
    have hI : SR _ _ _ _ a w := hI
    obtain rfl := hI.wp
    exact hQ a hI
set_option maxRecDepth 100000 in
set_option maxHeartbeats 4000000 in
theorem p12 (n : Nat) {G : World → Prop} (hS : Stable G) (B r N i wB g off cap k v : Nat) (hi : i < N) (b : Bool) (c3 : ∀ w, G w → w.cell? ⟨B, 3, none⟩ = some (.slice (some ⟨g, off, none⟩) N cap)) (ca0 : ∀ w, G w → w.cell? ⟨g, off + i * 2, none⟩ = some (.int .u8 k)) (ca1 : ∀ w, G w → w.cell? ⟨g, off + i * 2 + 1, none⟩ = some (.int .u8 v)) (ho : ∀ m w, G w → CallsIn Fence.wide m Try.prog 17 #[.agg #[.int .u8 k, .int .u8 v]] w fun e w' => e = .returned (.bool b) ∧ Below w.heap.size w w') (Q : Exit → Act → World → Prop) (a : Act) (w : World) (h0 : SG [(1, .pointer (some ⟨B, 0, none⟩)), (3, .slice (some ⟨r, 0, none⟩) N N), (5, .int .i64 i), (6, .pointer (some ⟨wB, 0, none⟩))] 120 G a w)
    (hQ : ∀ a w, SG [(1, .pointer (some ⟨B, 0, none⟩)), (3, .slice (some ⟨r, 0, none⟩) N N), (5, .int .i64 i), (6, .pointer (some ⟨wB, 0, none⟩)), (42, .bool b)] 120 G a w → Q .normal a w) : (regOf 12 C4).wpIn Fence.wide n Try.prog Q a w := by
  simp only [regOf, C4, Try.f4, Option.getD, Nat.reduceBEq, Bool.false_eq_true, if_true, if_false]
  refine region_sq (fun k_ a w => match k_ with | 0 => SG [(1, .pointer (some ⟨B, 0, none⟩)), (3, .slice (some ⟨r, 0, none⟩) N N), (5, .int .i64 i), (6, .pointer (some ⟨wB, 0, none⟩))] 120 G a w | 1 => SG [(1, .pointer (some ⟨B, 0, none⟩)), (3, .slice (some ⟨r, 0, none⟩) N N), (5, .int .i64 i), (6, .pointer (some ⟨wB, 0, none⟩)), (37, .pointer (some ⟨B, 3, none⟩))] 120 G a w | 2 => SG [(1, .pointer (some ⟨B, 0, none⟩)), (3, .slice (some ⟨r, 0, none⟩) N N), (5, .int .i64 i), (6, .pointer (some ⟨wB, 0, none⟩)), (38, .slice (some ⟨g, off, none⟩) N cap)] 120 G a w | 3 => SG [(1, .pointer (some ⟨B, 0, none⟩)), (3, .slice (some ⟨r, 0, none⟩) N N), (5, .int .i64 i), (6, .pointer (some ⟨wB, 0, none⟩)), (38, .slice (some ⟨g, off, none⟩) N cap), (39, .int .i64 i)] 120 G a w | 4 => SG [(1, .pointer (some ⟨B, 0, none⟩)), (3, .slice (some ⟨r, 0, none⟩) N N), (5, .int .i64 i), (6, .pointer (some ⟨wB, 0, none⟩)), (40, .pointer (some ⟨g, off + i * 2, none⟩))] 120 G a w | 5 => SG [(1, .pointer (some ⟨B, 0, none⟩)), (3, .slice (some ⟨r, 0, none⟩) N N), (5, .int .i64 i), (6, .pointer (some ⟨wB, 0, none⟩)), (41, .agg #[.int .u8 k, .int .u8 v])] 120 G a w | _ => SG [(1, .pointer (some ⟨B, 0, none⟩)), (3, .slice (some ⟨r, 0, none⟩) N N), (5, .int .i64 i), (6, .pointer (some ⟨wB, 0, none⟩)), (42, .bool b)] 120 G a w) (show SG _ _ G a w from h0) ⟨?_, ?_, ?_, ?_, ?_, ?_, trivial⟩ ?_
  · intro a w hI
    have hI : SG _ _ G a w := hI
    have e1 := hI.g 1 rfl
    go_simp
    exact hI.put (d := 37) (by decide) (by simp) hI.wp
  · intro a w hI
    have hI : SG _ _ G a w := hI
    have e37 := hI.g 37 rfl
    have cc0 := c3 w hI.wp
    go_simp
    exact hI.put (d := 38) (by decide) (by simp) hI.wp
  · intro a w hI
    have hI : SG _ _ G a w := hI
    have e5 := hI.g 5 rfl
    go_simp
    exact hI.put (d := 39) (by decide) (by simp) hI.wp
  · intro a w hI
    have hI : SG _ _ G a w := hI
    have e38 := hI.g 38 rfl
    have e39 := hI.g 39 rfl
    have q1_3 : (0 : Int) ≤ i := by omega
    have q2_3 : (i : Int) < N := by omega
    go_simp
    exact hI.put (d := 40) (by decide) (by simp) hI.wp
  · intro a w hI
    have hI : SG _ _ G a w := hI
    have e40 := hI.g 40 rfl
    have cc0 := ca0 w hI.wp
    have cc1 := ca1 w hI.wp
    go_simp
    exact hI.put (d := 41) (by decide) (by simp) hI.wp
  · intro a w hI
    have hI : SG _ _ G a w := hI
    have e41 := hI.g 41 rfl
    go_simp
    refine ⟨trivial, fun h => (by cases h), (ho (n - 1) w hI.wp).mono ?_⟩
    rintro e w' ⟨rfl, hb2⟩
    exact hI.put (d := 42) (by decide) (by simp) (hS _ _ hI.wp hb2)
  · intro a w hI
    have hI : SG _ _ G a w := hI
    exact hQ a w hI
set_option maxRecDepth 100000 in
set_option maxHeartbeats 4000000 in
theorem p13 (n : Nat) {G G1 : World → Prop} (hS : Stable G) (B r N i wB g off cap k v : Nat) (hi : i < N) (lm : Nat) (c3 : ∀ w, G w → w.cell? ⟨B, 3, none⟩ = some (.slice (some ⟨g, off, none⟩) N cap)) (ca0 : ∀ w, G w → w.cell? ⟨g, off + i * 2, none⟩ = some (.int .u8 k)) (ca1 : ∀ w, G w → w.cell? ⟨g, off + i * 2 + 1, none⟩ = some (.int .u8 v)) (hl : ∀ m w, G w → CallsIn Fence.wide m Try.prog 18 #[.agg #[.int .u8 k, .int .u8 v]] w fun e w' => e = .returned (.int .u8 lm) ∧ Below w.heap.size w w') (cw : ∀ w, G w → ∃ v, w.cell? ⟨wB, 1, none⟩ = some v) (fw : ∀ w, G w → w.frozen? ⟨wB, 1, none⟩ = false) (hst : ∀ w, G w → G1 (w.setCell ⟨wB, 1, none⟩ (.int .u8 lm))) (Q : Exit → Act → World → Prop) (a : Act) (w : World) (h0 : SG [(1, .pointer (some ⟨B, 0, none⟩)), (3, .slice (some ⟨r, 0, none⟩) N N), (5, .int .i64 i), (6, .pointer (some ⟨wB, 0, none⟩))] 120 G a w)
    (hQ : ∀ a w, SG [(1, .pointer (some ⟨B, 0, none⟩)), (3, .slice (some ⟨r, 0, none⟩) N N), (5, .int .i64 i), (6, .pointer (some ⟨wB, 0, none⟩))] 120 G1 a w → Q .normal a w) : (regOf 13 C4).wpIn Fence.wide n Try.prog Q a w := by
  simp only [regOf, C4, Try.f4, Option.getD, Nat.reduceBEq, Bool.false_eq_true, if_true, if_false]
  refine region_sq (fun k_ a w => match k_ with | 0 => SG [(1, .pointer (some ⟨B, 0, none⟩)), (3, .slice (some ⟨r, 0, none⟩) N N), (5, .int .i64 i), (6, .pointer (some ⟨wB, 0, none⟩))] 120 G a w | 1 => SG [(1, .pointer (some ⟨B, 0, none⟩)), (3, .slice (some ⟨r, 0, none⟩) N N), (5, .int .i64 i), (6, .pointer (some ⟨wB, 0, none⟩)), (43, .pointer (some ⟨B, 3, none⟩))] 120 G a w | 2 => SG [(1, .pointer (some ⟨B, 0, none⟩)), (3, .slice (some ⟨r, 0, none⟩) N N), (5, .int .i64 i), (6, .pointer (some ⟨wB, 0, none⟩)), (44, .slice (some ⟨g, off, none⟩) N cap)] 120 G a w | 3 => SG [(1, .pointer (some ⟨B, 0, none⟩)), (3, .slice (some ⟨r, 0, none⟩) N N), (5, .int .i64 i), (6, .pointer (some ⟨wB, 0, none⟩)), (44, .slice (some ⟨g, off, none⟩) N cap), (45, .int .i64 i)] 120 G a w | 4 => SG [(1, .pointer (some ⟨B, 0, none⟩)), (3, .slice (some ⟨r, 0, none⟩) N N), (5, .int .i64 i), (6, .pointer (some ⟨wB, 0, none⟩)), (46, .pointer (some ⟨g, off + i * 2, none⟩))] 120 G a w | 5 => SG [(1, .pointer (some ⟨B, 0, none⟩)), (3, .slice (some ⟨r, 0, none⟩) N N), (5, .int .i64 i), (6, .pointer (some ⟨wB, 0, none⟩)), (47, .agg #[.int .u8 k, .int .u8 v])] 120 G a w | 6 => SG [(1, .pointer (some ⟨B, 0, none⟩)), (3, .slice (some ⟨r, 0, none⟩) N N), (5, .int .i64 i), (6, .pointer (some ⟨wB, 0, none⟩)), (48, .int .u8 lm)] 120 G a w | 7 => SG [(1, .pointer (some ⟨B, 0, none⟩)), (3, .slice (some ⟨r, 0, none⟩) N N), (5, .int .i64 i), (6, .pointer (some ⟨wB, 0, none⟩)), (48, .int .u8 lm), (49, .pointer (some ⟨wB, 1, none⟩))] 120 G a w | _ => SG [(1, .pointer (some ⟨B, 0, none⟩)), (3, .slice (some ⟨r, 0, none⟩) N N), (5, .int .i64 i), (6, .pointer (some ⟨wB, 0, none⟩))] 120 G1 a w) (show SG _ _ G a w from h0) ⟨?_, ?_, ?_, ?_, ?_, ?_, ?_, ?_, trivial⟩ ?_
  · intro a w hI
    have hI : SG _ _ G a w := hI
    have e1 := hI.g 1 rfl
    go_simp
    exact hI.put (d := 43) (by decide) (by simp) hI.wp
  · intro a w hI
    have hI : SG _ _ G a w := hI
    have e43 := hI.g 43 rfl
    have cc0 := c3 w hI.wp
    go_simp
    exact hI.put (d := 44) (by decide) (by simp) hI.wp
  · intro a w hI
    have hI : SG _ _ G a w := hI
    have e5 := hI.g 5 rfl
    go_simp
    exact hI.put (d := 45) (by decide) (by simp) hI.wp
  · intro a w hI
    have hI : SG _ _ G a w := hI
    have e44 := hI.g 44 rfl
    have e45 := hI.g 45 rfl
    have q1_3 : (0 : Int) ≤ i := by omega
    have q2_3 : (i : Int) < N := by omega
    go_simp
    exact hI.put (d := 46) (by decide) (by simp) hI.wp
  · intro a w hI
    have hI : SG _ _ G a w := hI
    have e46 := hI.g 46 rfl
    have cc0 := ca0 w hI.wp
    have cc1 := ca1 w hI.wp
    go_simp
    exact hI.put (d := 47) (by decide) (by simp) hI.wp
  · intro a w hI
    have hI : SG _ _ G a w := hI
    have e47 := hI.g 47 rfl
    go_simp
    refine ⟨trivial, fun h => (by cases h), (hl (n - 1) w hI.wp).mono ?_⟩
    rintro e w' ⟨rfl, hb2⟩
    exact hI.put (d := 48) (by decide) (by simp) (hS _ _ hI.wp hb2)
  · intro a w hI
    have hI : SG _ _ G a w := hI
    have e6 := hI.g 6 rfl
    go_simp
    exact hI.put (d := 49) (by decide) (by simp) hI.wp
  · intro a w hI
    have hI : SG _ _ G a w := hI
    have e49 := hI.g 49 rfl
    have e48 := hI.g 48 rfl
    obtain ⟨v0, cw0⟩ := cw w hI.wp
    have fw0 := fw w hI.wp
    go_simp
    exact (hI.none (hst w hI.wp)).sub (by intro p hp; simp only [List.mem_cons, List.not_mem_nil, or_false] at hp ⊢; rcases hp with h | h | h | h <;> simp [h])
  · intro a w hI
    have hI : SG _ _ G1 a w := hI
    exact hQ a w hI
set_option maxRecDepth 100000 in
set_option maxHeartbeats 4000000 in
theorem p14 (n : Nat) (W : World) (B r N i wB : Nat) (Q : Exit → Act → World → Prop) (a : Act) (h0 : SR [(1, .pointer (some ⟨B, 0, none⟩)), (3, .slice (some ⟨r, 0, none⟩) N N), (5, .int .i64 i), (6, .pointer (some ⟨wB, 0, none⟩))] 120 [] W a W)
    (hQ : ∀ a, SR [(1, .pointer (some ⟨B, 0, none⟩)), (3, .slice (some ⟨r, 0, none⟩) N N), (5, .int .i64 i), (6, .pointer (some ⟨wB, 0, none⟩)), (7, .int .i64 i)] 120 [] (W) a (W) → Q .normal a (W)) : (regOf 14 C4).wpIn Fence.wide n Try.prog Q a W := by
  simp only [regOf, C4, Try.f4, Option.getD, Nat.reduceBEq, Bool.false_eq_true, if_true, if_false]
  refine region_sq (fun k_ a w => match k_ with | 0 => SR [(1, .pointer (some ⟨B, 0, none⟩)), (3, .slice (some ⟨r, 0, none⟩) N N), (5, .int .i64 i), (6, .pointer (some ⟨wB, 0, none⟩))] 120 [] (W) a w | 1 => SR [(1, .pointer (some ⟨B, 0, none⟩)), (3, .slice (some ⟨r, 0, none⟩) N N), (5, .int .i64 i), (6, .pointer (some ⟨wB, 0, none⟩)), (50, .int .i64 i)] 120 [] (W) a w | _ => SR [(1, .pointer (some ⟨B, 0, none⟩)), (3, .slice (some ⟨r, 0, none⟩) N N), (5, .int .i64 i), (6, .pointer (some ⟨wB, 0, none⟩)), (7, .int .i64 i)] 120 [] (W) a w) (show SR _ _ _ _ a W from h0) ⟨?_, ?_, trivial⟩ ?_
  · intro a w hI
    have hI : SR _ _ _ _ a w := hI
    have e5 := hI.g 5 rfl
    have hw : w = W := hI.wp
    subst hw
    go_simp
    exact hI.put (d := 50) (by decide) (by simp)
  · intro a w hI
    have hI : SR _ _ _ _ a w := hI
    have e50 := hI.g 50 rfl
    have hw : w = W := hI.wp
    subst hw
    go_simp
    exact hI.put (d := 7) (by decide) (by simp)
  · intro a w hI
    have hI : SR _ _ _ _ a w := hI
    have hw : w = W := hI.wp
    subst hw
    exact hQ a hI
set_option maxRecDepth 100000 in
set_option maxHeartbeats 4000000 in
theorem p15n (n : Nat) {G : World → Prop} (hS : Stable G) (B r N i wB u g off cap k v : Nat) (hu : ¬ u < N) (c3 : ∀ w, G w → w.cell? ⟨B, 3, none⟩ = some (.slice (some ⟨g, off, none⟩) N cap)) (Q : Exit → Act → World → Prop) (a : Act) (w : World) (h0 : SG [(1, .pointer (some ⟨B, 0, none⟩)), (3, .slice (some ⟨r, 0, none⟩) N N), (5, .int .i64 i), (6, .pointer (some ⟨wB, 0, none⟩)), (7, .int .i64 u)] 120 G a w)
    (hQ : ∀ a w, SG [(1, .pointer (some ⟨B, 0, none⟩)), (3, .slice (some ⟨r, 0, none⟩) N N), (5, .int .i64 i), (6, .pointer (some ⟨wB, 0, none⟩)), (7, .int .i64 u), (63, .bool false)] 120 G a w → Q .normal a w) : (regOf 15 C4).wpIn Fence.wide n Try.prog Q a w := by
  simp only [regOf, C4, Try.f4, Option.getD, Nat.reduceBEq, Bool.false_eq_true, if_true, if_false]
  refine region_sq (fun k_ a w => match k_ with | 0 => SG [(1, .pointer (some ⟨B, 0, none⟩)), (3, .slice (some ⟨r, 0, none⟩) N N), (5, .int .i64 i), (6, .pointer (some ⟨wB, 0, none⟩)), (7, .int .i64 u)] 120 G a w | 1 => SG [(1, .pointer (some ⟨B, 0, none⟩)), (3, .slice (some ⟨r, 0, none⟩) N N), (5, .int .i64 i), (6, .pointer (some ⟨wB, 0, none⟩)), (7, .int .i64 u), (51, .int .i64 u)] 120 G a w | 2 => SG [(1, .pointer (some ⟨B, 0, none⟩)), (3, .slice (some ⟨r, 0, none⟩) N N), (5, .int .i64 i), (6, .pointer (some ⟨wB, 0, none⟩)), (7, .int .i64 u), (51, .int .i64 u), (52, .pointer (some ⟨B, 3, none⟩))] 120 G a w | 3 => SG [(1, .pointer (some ⟨B, 0, none⟩)), (3, .slice (some ⟨r, 0, none⟩) N N), (5, .int .i64 i), (6, .pointer (some ⟨wB, 0, none⟩)), (7, .int .i64 u), (51, .int .i64 u), (53, .slice (some ⟨g, off, none⟩) N cap)] 120 G a w | 4 => SG [(1, .pointer (some ⟨B, 0, none⟩)), (3, .slice (some ⟨r, 0, none⟩) N N), (5, .int .i64 i), (6, .pointer (some ⟨wB, 0, none⟩)), (7, .int .i64 u), (51, .int .i64 u), (54, .int .i64 N)] 120 G a w | 5 => SG [(1, .pointer (some ⟨B, 0, none⟩)), (3, .slice (some ⟨r, 0, none⟩) N N), (5, .int .i64 i), (6, .pointer (some ⟨wB, 0, none⟩)), (7, .int .i64 u), (55, .bool false)] 120 G a w | 6 => SG [(1, .pointer (some ⟨B, 0, none⟩)), (3, .slice (some ⟨r, 0, none⟩) N N), (5, .int .i64 i), (6, .pointer (some ⟨wB, 0, none⟩)), (7, .int .i64 u), (56, .bool false)] 120 G a w | 7 => SG [(1, .pointer (some ⟨B, 0, none⟩)), (3, .slice (some ⟨r, 0, none⟩) N N), (5, .int .i64 i), (6, .pointer (some ⟨wB, 0, none⟩)), (7, .int .i64 u), (56, .bool false)] 120 G a w | 8 => SG [(1, .pointer (some ⟨B, 0, none⟩)), (3, .slice (some ⟨r, 0, none⟩) N N), (5, .int .i64 i), (6, .pointer (some ⟨wB, 0, none⟩)), (7, .int .i64 u), (56, .bool false)] 120 G a w | 9 => SG [(1, .pointer (some ⟨B, 0, none⟩)), (3, .slice (some ⟨r, 0, none⟩) N N), (5, .int .i64 i), (6, .pointer (some ⟨wB, 0, none⟩)), (7, .int .i64 u), (56, .bool false)] 120 G a w | 10 => SG [(1, .pointer (some ⟨B, 0, none⟩)), (3, .slice (some ⟨r, 0, none⟩) N N), (5, .int .i64 i), (6, .pointer (some ⟨wB, 0, none⟩)), (7, .int .i64 u), (56, .bool false)] 120 G a w | 11 => SG [(1, .pointer (some ⟨B, 0, none⟩)), (3, .slice (some ⟨r, 0, none⟩) N N), (5, .int .i64 i), (6, .pointer (some ⟨wB, 0, none⟩)), (7, .int .i64 u), (56, .bool false)] 120 G a w | 12 => SG [(1, .pointer (some ⟨B, 0, none⟩)), (3, .slice (some ⟨r, 0, none⟩) N N), (5, .int .i64 i), (6, .pointer (some ⟨wB, 0, none⟩)), (7, .int .i64 u), (56, .bool false)] 120 G a w | _ => SG [(1, .pointer (some ⟨B, 0, none⟩)), (3, .slice (some ⟨r, 0, none⟩) N N), (5, .int .i64 i), (6, .pointer (some ⟨wB, 0, none⟩)), (7, .int .i64 u), (63, .bool false)] 120 G a w) (show SG _ _ G a w from h0) ⟨?_, ?_, ?_, ?_, ?_, ?_, ?_, ?_, ?_, ?_, ?_, ?_, ?_, trivial⟩ ?_
  · intro a w hI
    have hI : SG _ _ G a w := hI
    have e7 := hI.g 7 rfl
    go_simp
    exact hI.put (d := 51) (by decide) (by simp) hI.wp
  · intro a w hI
    have hI : SG _ _ G a w := hI
    have e1 := hI.g 1 rfl
    go_simp
    exact hI.put (d := 52) (by decide) (by simp) hI.wp
  · intro a w hI
    have hI : SG _ _ G a w := hI
    have e52 := hI.g 52 rfl
    have cc0 := c3 w hI.wp
    go_simp
    exact hI.put (d := 53) (by decide) (by simp) hI.wp
  · intro a w hI
    have hI : SG _ _ G a w := hI
    have e53 := hI.g 53 rfl
    go_simp
    exact hI.put (d := 54) (by decide) (by simp) hI.wp
  · intro a w hI
    have hI : SG _ _ G a w := hI
    have e51 := hI.g 51 rfl
    have e54 := hI.g 54 rfl
    have z1 : ¬ ((u : Int) < N) := by omega
    go_simp
    exact hI.put (d := 55) (by decide) (by simp) hI.wp
  · intro a w hI
    have hI : SG _ _ G a w := hI
    have e55 := hI.g 55 rfl
    go_simp
    exact hI.put (d := 56) (by decide) (by simp) hI.wp
  · intro a w hI
    have hI : SG _ _ G a w := hI
    have e56 := hI.g 56 rfl
    have f56 := slot_bool e56
    go_simp
    exact hI.put (d := 57) (by decide) (by simp) hI.wp
  · intro a w hI
    have hI : SG _ _ G a w := hI
    have e56 := hI.g 56 rfl
    have f56 := slot_bool e56
    go_simp
    exact hI.put (d := 58) (by decide) (by simp) hI.wp
  · intro a w hI
    have hI : SG _ _ G a w := hI
    have e56 := hI.g 56 rfl
    have f56 := slot_bool e56
    go_simp
    exact hI.put (d := 59) (by decide) (by simp) hI.wp
  · intro a w hI
    have hI : SG _ _ G a w := hI
    have e56 := hI.g 56 rfl
    have f56 := slot_bool e56
    go_simp
    exact hI.put (d := 60) (by decide) (by simp) hI.wp
  · intro a w hI
    have hI : SG _ _ G a w := hI
    have e56 := hI.g 56 rfl
    have f56 := slot_bool e56
    go_simp
    exact hI.put (d := 61) (by decide) (by simp) hI.wp
  · intro a w hI
    have hI : SG _ _ G a w := hI
    have e56 := hI.g 56 rfl
    have f56 := slot_bool e56
    go_simp
    refine ⟨trivial, ?_⟩
    exact hI.put (d := 62) (by decide) (by simp) hI.wp
  · intro a w hI
    have hI : SG _ _ G a w := hI
    have e56 := hI.g 56 rfl
    go_simp
    exact hI.put (d := 63) (by decide) (by simp) hI.wp
  · intro a w hI
    have hI : SG _ _ G a w := hI
    exact hQ a w hI
set_option maxRecDepth 100000 in
set_option maxHeartbeats 4000000 in
theorem p15f (n : Nat) {G : World → Prop} (hS : Stable G) (B r N i wB u g off cap k v : Nat) (hu : u < N) (c3 : ∀ w, G w → w.cell? ⟨B, 3, none⟩ = some (.slice (some ⟨g, off, none⟩) N cap)) (cu0 : ∀ w, G w → w.cell? ⟨g, off + u * 2, none⟩ = some (.int .u8 k)) (cu1 : ∀ w, G w → w.cell? ⟨g, off + u * 2 + 1, none⟩ = some (.int .u8 v)) (ho : ∀ m w, G w → CallsIn Fence.wide m Try.prog 17 #[.agg #[.int .u8 k, .int .u8 v]] w fun e w' => e = .returned (.bool false) ∧ Below w.heap.size w w') (Q : Exit → Act → World → Prop) (a : Act) (w : World) (h0 : SG [(1, .pointer (some ⟨B, 0, none⟩)), (3, .slice (some ⟨r, 0, none⟩) N N), (5, .int .i64 i), (6, .pointer (some ⟨wB, 0, none⟩)), (7, .int .i64 u)] 120 G a w)
    (hQ : ∀ a w, SG [(1, .pointer (some ⟨B, 0, none⟩)), (3, .slice (some ⟨r, 0, none⟩) N N), (5, .int .i64 i), (6, .pointer (some ⟨wB, 0, none⟩)), (7, .int .i64 u), (63, .bool false)] 120 G a w → Q .normal a w) : (regOf 15 C4).wpIn Fence.wide n Try.prog Q a w := by
  simp only [regOf, C4, Try.f4, Option.getD, Nat.reduceBEq, Bool.false_eq_true, if_true, if_false]
  refine region_sq (fun k_ a w => match k_ with | 0 => SG [(1, .pointer (some ⟨B, 0, none⟩)), (3, .slice (some ⟨r, 0, none⟩) N N), (5, .int .i64 i), (6, .pointer (some ⟨wB, 0, none⟩)), (7, .int .i64 u)] 120 G a w | 1 => SG [(1, .pointer (some ⟨B, 0, none⟩)), (3, .slice (some ⟨r, 0, none⟩) N N), (5, .int .i64 i), (6, .pointer (some ⟨wB, 0, none⟩)), (7, .int .i64 u), (51, .int .i64 u)] 120 G a w | 2 => SG [(1, .pointer (some ⟨B, 0, none⟩)), (3, .slice (some ⟨r, 0, none⟩) N N), (5, .int .i64 i), (6, .pointer (some ⟨wB, 0, none⟩)), (7, .int .i64 u), (51, .int .i64 u), (52, .pointer (some ⟨B, 3, none⟩))] 120 G a w | 3 => SG [(1, .pointer (some ⟨B, 0, none⟩)), (3, .slice (some ⟨r, 0, none⟩) N N), (5, .int .i64 i), (6, .pointer (some ⟨wB, 0, none⟩)), (7, .int .i64 u), (51, .int .i64 u), (53, .slice (some ⟨g, off, none⟩) N cap)] 120 G a w | 4 => SG [(1, .pointer (some ⟨B, 0, none⟩)), (3, .slice (some ⟨r, 0, none⟩) N N), (5, .int .i64 i), (6, .pointer (some ⟨wB, 0, none⟩)), (7, .int .i64 u), (51, .int .i64 u), (54, .int .i64 N)] 120 G a w | 5 => SG [(1, .pointer (some ⟨B, 0, none⟩)), (3, .slice (some ⟨r, 0, none⟩) N N), (5, .int .i64 i), (6, .pointer (some ⟨wB, 0, none⟩)), (7, .int .i64 u), (55, .bool true)] 120 G a w | 6 => SG [(1, .pointer (some ⟨B, 0, none⟩)), (3, .slice (some ⟨r, 0, none⟩) N N), (5, .int .i64 i), (6, .pointer (some ⟨wB, 0, none⟩)), (7, .int .i64 u), (56, .bool true)] 120 G a w | 7 => SG [(1, .pointer (some ⟨B, 0, none⟩)), (3, .slice (some ⟨r, 0, none⟩) N N), (5, .int .i64 i), (6, .pointer (some ⟨wB, 0, none⟩)), (7, .int .i64 u), (56, .bool true), (57, .pointer (some ⟨B, 3, none⟩))] 120 G a w | 8 => SG [(1, .pointer (some ⟨B, 0, none⟩)), (3, .slice (some ⟨r, 0, none⟩) N N), (5, .int .i64 i), (6, .pointer (some ⟨wB, 0, none⟩)), (7, .int .i64 u), (56, .bool true), (58, .slice (some ⟨g, off, none⟩) N cap)] 120 G a w | 9 => SG [(1, .pointer (some ⟨B, 0, none⟩)), (3, .slice (some ⟨r, 0, none⟩) N N), (5, .int .i64 i), (6, .pointer (some ⟨wB, 0, none⟩)), (7, .int .i64 u), (56, .bool true), (58, .slice (some ⟨g, off, none⟩) N cap), (59, .int .i64 u)] 120 G a w | 10 => SG [(1, .pointer (some ⟨B, 0, none⟩)), (3, .slice (some ⟨r, 0, none⟩) N N), (5, .int .i64 i), (6, .pointer (some ⟨wB, 0, none⟩)), (7, .int .i64 u), (56, .bool true), (60, .pointer (some ⟨g, off + u * 2, none⟩))] 120 G a w | 11 => SG [(1, .pointer (some ⟨B, 0, none⟩)), (3, .slice (some ⟨r, 0, none⟩) N N), (5, .int .i64 i), (6, .pointer (some ⟨wB, 0, none⟩)), (7, .int .i64 u), (56, .bool true), (61, .agg #[.int .u8 k, .int .u8 v])] 120 G a w | 12 => SG [(1, .pointer (some ⟨B, 0, none⟩)), (3, .slice (some ⟨r, 0, none⟩) N N), (5, .int .i64 i), (6, .pointer (some ⟨wB, 0, none⟩)), (7, .int .i64 u), (56, .bool true), (62, .bool false)] 120 G a w | _ => SG [(1, .pointer (some ⟨B, 0, none⟩)), (3, .slice (some ⟨r, 0, none⟩) N N), (5, .int .i64 i), (6, .pointer (some ⟨wB, 0, none⟩)), (7, .int .i64 u), (63, .bool false)] 120 G a w) (show SG _ _ G a w from h0) ⟨?_, ?_, ?_, ?_, ?_, ?_, ?_, ?_, ?_, ?_, ?_, ?_, ?_, trivial⟩ ?_
  · intro a w hI
    have hI : SG _ _ G a w := hI
    have e7 := hI.g 7 rfl
    go_simp
    exact hI.put (d := 51) (by decide) (by simp) hI.wp
  · intro a w hI
    have hI : SG _ _ G a w := hI
    have e1 := hI.g 1 rfl
    go_simp
    exact hI.put (d := 52) (by decide) (by simp) hI.wp
  · intro a w hI
    have hI : SG _ _ G a w := hI
    have e52 := hI.g 52 rfl
    have cc0 := c3 w hI.wp
    go_simp
    exact hI.put (d := 53) (by decide) (by simp) hI.wp
  · intro a w hI
    have hI : SG _ _ G a w := hI
    have e53 := hI.g 53 rfl
    go_simp
    exact hI.put (d := 54) (by decide) (by simp) hI.wp
  · intro a w hI
    have hI : SG _ _ G a w := hI
    have e51 := hI.g 51 rfl
    have e54 := hI.g 54 rfl
    have z1 : (u : Int) < N := by omega
    go_simp
    exact hI.put (d := 55) (by decide) (by simp) hI.wp
  · intro a w hI
    have hI : SG _ _ G a w := hI
    have e55 := hI.g 55 rfl
    go_simp
    exact hI.put (d := 56) (by decide) (by simp) hI.wp
  · intro a w hI
    have hI : SG _ _ G a w := hI
    have e1 := hI.g 1 rfl
    have e56 := hI.g 56 rfl
    have f56 := slot_bool e56
    go_simp
    exact hI.put (d := 57) (by decide) (by simp) hI.wp
  · intro a w hI
    have hI : SG _ _ G a w := hI
    have e57 := hI.g 57 rfl
    have e56 := hI.g 56 rfl
    have f56 := slot_bool e56
    have cc0 := c3 w hI.wp
    go_simp
    exact hI.put (d := 58) (by decide) (by simp) hI.wp
  · intro a w hI
    have hI : SG _ _ G a w := hI
    have e7 := hI.g 7 rfl
    have e56 := hI.g 56 rfl
    have f56 := slot_bool e56
    go_simp
    exact hI.put (d := 59) (by decide) (by simp) hI.wp
  · intro a w hI
    have hI : SG _ _ G a w := hI
    have e58 := hI.g 58 rfl
    have e59 := hI.g 59 rfl
    have e56 := hI.g 56 rfl
    have f56 := slot_bool e56
    have q1_9 : (0 : Int) ≤ u := by omega
    have q2_9 : (u : Int) < N := by omega
    go_simp
    exact hI.put (d := 60) (by decide) (by simp) hI.wp
  · intro a w hI
    have hI : SG _ _ G a w := hI
    have e60 := hI.g 60 rfl
    have e56 := hI.g 56 rfl
    have f56 := slot_bool e56
    have cc0 := cu0 w hI.wp
    have cc1 := cu1 w hI.wp
    go_simp
    exact hI.put (d := 61) (by decide) (by simp) hI.wp
  · intro a w hI
    have hI : SG _ _ G a w := hI
    have e61 := hI.g 61 rfl
    have e56 := hI.g 56 rfl
    have f56 := slot_bool e56
    go_simp
    refine ⟨trivial, fun h => (by cases h), (ho (n - 1) w hI.wp).mono ?_⟩
    rintro e w' ⟨rfl, hb2⟩
    exact hI.put (d := 62) (by decide) (by simp) (hS _ _ hI.wp hb2)
  · intro a w hI
    have hI : SG _ _ G a w := hI
    have e56 := hI.g 56 rfl
    have e62 := hI.g 62 rfl
    go_simp
    exact hI.put (d := 63) (by decide) (by simp) hI.wp
  · intro a w hI
    have hI : SG _ _ G a w := hI
    exact hQ a w hI
set_option maxRecDepth 100000 in
set_option maxHeartbeats 4000000 in
theorem p15t (n : Nat) {G : World → Prop} (hS : Stable G) (B r N i wB u g off cap k v : Nat) (hu : u < N) (c3 : ∀ w, G w → w.cell? ⟨B, 3, none⟩ = some (.slice (some ⟨g, off, none⟩) N cap)) (cu0 : ∀ w, G w → w.cell? ⟨g, off + u * 2, none⟩ = some (.int .u8 k)) (cu1 : ∀ w, G w → w.cell? ⟨g, off + u * 2 + 1, none⟩ = some (.int .u8 v)) (ho : ∀ m w, G w → CallsIn Fence.wide m Try.prog 17 #[.agg #[.int .u8 k, .int .u8 v]] w fun e w' => e = .returned (.bool true) ∧ Below w.heap.size w w') (Q : Exit → Act → World → Prop) (a : Act) (w : World) (h0 : SG [(1, .pointer (some ⟨B, 0, none⟩)), (3, .slice (some ⟨r, 0, none⟩) N N), (5, .int .i64 i), (6, .pointer (some ⟨wB, 0, none⟩)), (7, .int .i64 u)] 120 G a w)
    (hQ : ∀ a w, SG [(1, .pointer (some ⟨B, 0, none⟩)), (3, .slice (some ⟨r, 0, none⟩) N N), (5, .int .i64 i), (6, .pointer (some ⟨wB, 0, none⟩)), (7, .int .i64 u), (63, .bool true)] 120 G a w → Q .normal a w) : (regOf 15 C4).wpIn Fence.wide n Try.prog Q a w := by
  simp only [regOf, C4, Try.f4, Option.getD, Nat.reduceBEq, Bool.false_eq_true, if_true, if_false]
  refine region_sq (fun k_ a w => match k_ with | 0 => SG [(1, .pointer (some ⟨B, 0, none⟩)), (3, .slice (some ⟨r, 0, none⟩) N N), (5, .int .i64 i), (6, .pointer (some ⟨wB, 0, none⟩)), (7, .int .i64 u)] 120 G a w | 1 => SG [(1, .pointer (some ⟨B, 0, none⟩)), (3, .slice (some ⟨r, 0, none⟩) N N), (5, .int .i64 i), (6, .pointer (some ⟨wB, 0, none⟩)), (7, .int .i64 u), (51, .int .i64 u)] 120 G a w | 2 => SG [(1, .pointer (some ⟨B, 0, none⟩)), (3, .slice (some ⟨r, 0, none⟩) N N), (5, .int .i64 i), (6, .pointer (some ⟨wB, 0, none⟩)), (7, .int .i64 u), (51, .int .i64 u), (52, .pointer (some ⟨B, 3, none⟩))] 120 G a w | 3 => SG [(1, .pointer (some ⟨B, 0, none⟩)), (3, .slice (some ⟨r, 0, none⟩) N N), (5, .int .i64 i), (6, .pointer (some ⟨wB, 0, none⟩)), (7, .int .i64 u), (51, .int .i64 u), (53, .slice (some ⟨g, off, none⟩) N cap)] 120 G a w | 4 => SG [(1, .pointer (some ⟨B, 0, none⟩)), (3, .slice (some ⟨r, 0, none⟩) N N), (5, .int .i64 i), (6, .pointer (some ⟨wB, 0, none⟩)), (7, .int .i64 u), (51, .int .i64 u), (54, .int .i64 N)] 120 G a w | 5 => SG [(1, .pointer (some ⟨B, 0, none⟩)), (3, .slice (some ⟨r, 0, none⟩) N N), (5, .int .i64 i), (6, .pointer (some ⟨wB, 0, none⟩)), (7, .int .i64 u), (55, .bool true)] 120 G a w | 6 => SG [(1, .pointer (some ⟨B, 0, none⟩)), (3, .slice (some ⟨r, 0, none⟩) N N), (5, .int .i64 i), (6, .pointer (some ⟨wB, 0, none⟩)), (7, .int .i64 u), (56, .bool true)] 120 G a w | 7 => SG [(1, .pointer (some ⟨B, 0, none⟩)), (3, .slice (some ⟨r, 0, none⟩) N N), (5, .int .i64 i), (6, .pointer (some ⟨wB, 0, none⟩)), (7, .int .i64 u), (56, .bool true), (57, .pointer (some ⟨B, 3, none⟩))] 120 G a w | 8 => SG [(1, .pointer (some ⟨B, 0, none⟩)), (3, .slice (some ⟨r, 0, none⟩) N N), (5, .int .i64 i), (6, .pointer (some ⟨wB, 0, none⟩)), (7, .int .i64 u), (56, .bool true), (58, .slice (some ⟨g, off, none⟩) N cap)] 120 G a w | 9 => SG [(1, .pointer (some ⟨B, 0, none⟩)), (3, .slice (some ⟨r, 0, none⟩) N N), (5, .int .i64 i), (6, .pointer (some ⟨wB, 0, none⟩)), (7, .int .i64 u), (56, .bool true), (58, .slice (some ⟨g, off, none⟩) N cap), (59, .int .i64 u)] 120 G a w | 10 => SG [(1, .pointer (some ⟨B, 0, none⟩)), (3, .slice (some ⟨r, 0, none⟩) N N), (5, .int .i64 i), (6, .pointer (some ⟨wB, 0, none⟩)), (7, .int .i64 u), (56, .bool true), (60, .pointer (some ⟨g, off + u * 2, none⟩))] 120 G a w | 11 => SG [(1, .pointer (some ⟨B, 0, none⟩)), (3, .slice (some ⟨r, 0, none⟩) N N), (5, .int .i64 i), (6, .pointer (some ⟨wB, 0, none⟩)), (7, .int .i64 u), (56, .bool true), (61, .agg #[.int .u8 k, .int .u8 v])] 120 G a w | 12 => SG [(1, .pointer (some ⟨B, 0, none⟩)), (3, .slice (some ⟨r, 0, none⟩) N N), (5, .int .i64 i), (6, .pointer (some ⟨wB, 0, none⟩)), (7, .int .i64 u), (56, .bool true), (62, .bool true)] 120 G a w | _ => SG [(1, .pointer (some ⟨B, 0, none⟩)), (3, .slice (some ⟨r, 0, none⟩) N N), (5, .int .i64 i), (6, .pointer (some ⟨wB, 0, none⟩)), (7, .int .i64 u), (63, .bool true)] 120 G a w) (show SG _ _ G a w from h0) ⟨?_, ?_, ?_, ?_, ?_, ?_, ?_, ?_, ?_, ?_, ?_, ?_, ?_, trivial⟩ ?_
  · intro a w hI
    have hI : SG _ _ G a w := hI
    have e7 := hI.g 7 rfl
    go_simp
    exact hI.put (d := 51) (by decide) (by simp) hI.wp
  · intro a w hI
    have hI : SG _ _ G a w := hI
    have e1 := hI.g 1 rfl
    go_simp
    exact hI.put (d := 52) (by decide) (by simp) hI.wp
  · intro a w hI
    have hI : SG _ _ G a w := hI
    have e52 := hI.g 52 rfl
    have cc0 := c3 w hI.wp
    go_simp
    exact hI.put (d := 53) (by decide) (by simp) hI.wp
  · intro a w hI
    have hI : SG _ _ G a w := hI
    have e53 := hI.g 53 rfl
    go_simp
    exact hI.put (d := 54) (by decide) (by simp) hI.wp
  · intro a w hI
    have hI : SG _ _ G a w := hI
    have e51 := hI.g 51 rfl
    have e54 := hI.g 54 rfl
    have z1 : (u : Int) < N := by omega
    go_simp
    exact hI.put (d := 55) (by decide) (by simp) hI.wp
  · intro a w hI
    have hI : SG _ _ G a w := hI
    have e55 := hI.g 55 rfl
    go_simp
    exact hI.put (d := 56) (by decide) (by simp) hI.wp
  · intro a w hI
    have hI : SG _ _ G a w := hI
    have e1 := hI.g 1 rfl
    have e56 := hI.g 56 rfl
    have f56 := slot_bool e56
    go_simp
    exact hI.put (d := 57) (by decide) (by simp) hI.wp
  · intro a w hI
    have hI : SG _ _ G a w := hI
    have e57 := hI.g 57 rfl
    have e56 := hI.g 56 rfl
    have f56 := slot_bool e56
    have cc0 := c3 w hI.wp
    go_simp
    exact hI.put (d := 58) (by decide) (by simp) hI.wp
  · intro a w hI
    have hI : SG _ _ G a w := hI
    have e7 := hI.g 7 rfl
    have e56 := hI.g 56 rfl
    have f56 := slot_bool e56
    go_simp
    exact hI.put (d := 59) (by decide) (by simp) hI.wp
  · intro a w hI
    have hI : SG _ _ G a w := hI
    have e58 := hI.g 58 rfl
    have e59 := hI.g 59 rfl
    have e56 := hI.g 56 rfl
    have f56 := slot_bool e56
    have q1_9 : (0 : Int) ≤ u := by omega
    have q2_9 : (u : Int) < N := by omega
    go_simp
    exact hI.put (d := 60) (by decide) (by simp) hI.wp
  · intro a w hI
    have hI : SG _ _ G a w := hI
    have e60 := hI.g 60 rfl
    have e56 := hI.g 56 rfl
    have f56 := slot_bool e56
    have cc0 := cu0 w hI.wp
    have cc1 := cu1 w hI.wp
    go_simp
    exact hI.put (d := 61) (by decide) (by simp) hI.wp
  · intro a w hI
    have hI : SG _ _ G a w := hI
    have e61 := hI.g 61 rfl
    have e56 := hI.g 56 rfl
    have f56 := slot_bool e56
    go_simp
    refine ⟨trivial, fun h => (by cases h), (ho (n - 1) w hI.wp).mono ?_⟩
    rintro e w' ⟨rfl, hb2⟩
    exact hI.put (d := 62) (by decide) (by simp) (hS _ _ hI.wp hb2)
  · intro a w hI
    have hI : SG _ _ G a w := hI
    have e56 := hI.g 56 rfl
    have e62 := hI.g 62 rfl
    go_simp
    exact hI.put (d := 63) (by decide) (by simp) hI.wp
  · intro a w hI
    have hI : SG _ _ G a w := hI
    exact hQ a w hI
set_option maxRecDepth 100000 in
set_option maxHeartbeats 4000000 in
theorem p16 (n : Nat) (W : World) (B r N i wB u : Nat) (X Z s : Nat) (hm : IntKind.i64.wrap ((X : Int) * Z) = (X : Int) * Z) (hs : IntKind.i64.wrap ((u : Int) + (X : Int) * Z) = (s : Int)) (c0 : W.cell? ⟨B, 0, none⟩ = some (.int .i64 X)) (c2 : W.cell? ⟨B, 2, none⟩ = some (.int .i64 Z)) (Q : Exit → Act → World → Prop) (a : Act) (h0 : SR [(1, .pointer (some ⟨B, 0, none⟩)), (3, .slice (some ⟨r, 0, none⟩) N N), (5, .int .i64 i), (6, .pointer (some ⟨wB, 0, none⟩)), (7, .int .i64 u)] 120 [] W a W)
    (hQ : ∀ a, SR [(1, .pointer (some ⟨B, 0, none⟩)), (3, .slice (some ⟨r, 0, none⟩) N N), (5, .int .i64 i), (6, .pointer (some ⟨wB, 0, none⟩)), (7, .int .i64 s)] 120 [] (W) a (W) → Q .normal a (W)) : (regOf 16 C4).wpIn Fence.wide n Try.prog Q a W := by
  simp only [regOf, C4, Try.f4, Option.getD, Nat.reduceBEq, Bool.false_eq_true, if_true, if_false]
  refine region_sq (fun k_ a w => match k_ with | 0 => SR [(1, .pointer (some ⟨B, 0, none⟩)), (3, .slice (some ⟨r, 0, none⟩) N N), (5, .int .i64 i), (6, .pointer (some ⟨wB, 0, none⟩)), (7, .int .i64 u)] 120 [] (W) a w | 1 => SR [(1, .pointer (some ⟨B, 0, none⟩)), (3, .slice (some ⟨r, 0, none⟩) N N), (5, .int .i64 i), (6, .pointer (some ⟨wB, 0, none⟩)), (64, .int .i64 u)] 120 [] (W) a w | 2 => SR [(1, .pointer (some ⟨B, 0, none⟩)), (3, .slice (some ⟨r, 0, none⟩) N N), (5, .int .i64 i), (6, .pointer (some ⟨wB, 0, none⟩)), (64, .int .i64 u), (65, .pointer (some ⟨B, 0, none⟩))] 120 [] (W) a w | 3 => SR [(1, .pointer (some ⟨B, 0, none⟩)), (3, .slice (some ⟨r, 0, none⟩) N N), (5, .int .i64 i), (6, .pointer (some ⟨wB, 0, none⟩)), (64, .int .i64 u), (66, .int .i64 X)] 120 [] (W) a w | 4 => SR [(1, .pointer (some ⟨B, 0, none⟩)), (3, .slice (some ⟨r, 0, none⟩) N N), (5, .int .i64 i), (6, .pointer (some ⟨wB, 0, none⟩)), (64, .int .i64 u), (66, .int .i64 X), (67, .pointer (some ⟨B, 2, none⟩))] 120 [] (W) a w | 5 => SR [(1, .pointer (some ⟨B, 0, none⟩)), (3, .slice (some ⟨r, 0, none⟩) N N), (5, .int .i64 i), (6, .pointer (some ⟨wB, 0, none⟩)), (64, .int .i64 u), (66, .int .i64 X), (68, .int .i64 Z)] 120 [] (W) a w | 6 => SR [(1, .pointer (some ⟨B, 0, none⟩)), (3, .slice (some ⟨r, 0, none⟩) N N), (5, .int .i64 i), (6, .pointer (some ⟨wB, 0, none⟩)), (64, .int .i64 u), (69, .int .i64 ((X : Int) * Z))] 120 [] (W) a w | 7 => SR [(1, .pointer (some ⟨B, 0, none⟩)), (3, .slice (some ⟨r, 0, none⟩) N N), (5, .int .i64 i), (6, .pointer (some ⟨wB, 0, none⟩)), (70, .int .i64 s)] 120 [] (W) a w | _ => SR [(1, .pointer (some ⟨B, 0, none⟩)), (3, .slice (some ⟨r, 0, none⟩) N N), (5, .int .i64 i), (6, .pointer (some ⟨wB, 0, none⟩)), (7, .int .i64 s)] 120 [] (W) a w) (show SR _ _ _ _ a W from h0) ⟨?_, ?_, ?_, ?_, ?_, ?_, ?_, ?_, trivial⟩ ?_
  · intro a w hI
    have hI : SR _ _ _ _ a w := hI
    have e7 := hI.g 7 rfl
    have hw : w = W := hI.wp
    subst hw
    go_simp
    exact hI.put (d := 64) (by decide) (by simp)
  · intro a w hI
    have hI : SR _ _ _ _ a w := hI
    have e1 := hI.g 1 rfl
    have hw : w = W := hI.wp
    subst hw
    go_simp
    exact hI.put (d := 65) (by decide) (by simp)
  · intro a w hI
    have hI : SR _ _ _ _ a w := hI
    have e65 := hI.g 65 rfl
    have hw : w = W := hI.wp
    subst hw
    go_simp
    exact hI.put (d := 66) (by decide) (by simp)
  · intro a w hI
    have hI : SR _ _ _ _ a w := hI
    have e1 := hI.g 1 rfl
    have hw : w = W := hI.wp
    subst hw
    go_simp
    exact hI.put (d := 67) (by decide) (by simp)
  · intro a w hI
    have hI : SR _ _ _ _ a w := hI
    have e67 := hI.g 67 rfl
    have hw : w = W := hI.wp
    subst hw
    go_simp
    exact hI.put (d := 68) (by decide) (by simp)
  · intro a w hI
    have hI : SR _ _ _ _ a w := hI
    have e66 := hI.g 66 rfl
    have e68 := hI.g 68 rfl
    have hw : w = W := hI.wp
    subst hw
    go_simp
    exact hI.put (d := 69) (by decide) (by simp)
  · intro a w hI
    have hI : SR _ _ _ _ a w := hI
    have e64 := hI.g 64 rfl
    have e69 := hI.g 69 rfl
    have hw : w = W := hI.wp
    subst hw
    go_simp
    exact hI.put (d := 70) (by decide) (by simp)
  · intro a w hI
    have hI : SR _ _ _ _ a w := hI
    have e70 := hI.g 70 rfl
    have hw : w = W := hI.wp
    subst hw
    go_simp
    exact hI.put (d := 7) (by decide) (by simp)
  · intro a w hI
    have hI : SR _ _ _ _ a w := hI
    have hw : w = W := hI.wp
    subst hw
    exact hQ a hI
set_option maxRecDepth 100000 in
set_option maxHeartbeats 4000000 in
theorem p17 (n : Nat) (W : World) (B r N i wB u : Nat) (sp : Option Addr) (cap : Nat) (c3 : W.cell? ⟨B, 3, none⟩ = some (.slice sp N cap)) (Q : Exit → Act → World → Prop) (a : Act) (h0 : SR [(1, .pointer (some ⟨B, 0, none⟩)), (3, .slice (some ⟨r, 0, none⟩) N N), (5, .int .i64 i), (6, .pointer (some ⟨wB, 0, none⟩)), (7, .int .i64 u)] 120 [] W a W)
    (hQ : ∀ a, SR [(1, .pointer (some ⟨B, 0, none⟩)), (3, .slice (some ⟨r, 0, none⟩) N N), (5, .int .i64 i), (6, .pointer (some ⟨wB, 0, none⟩)), (75, .bool (decide (N ≤ u)))] 120 [] (W) a (W) → Q .normal a (W)) : (regOf 17 C4).wpIn Fence.wide n Try.prog Q a W := by
  simp only [regOf, C4, Try.f4, Option.getD, Nat.reduceBEq, Bool.false_eq_true, if_true, if_false]
  refine region_sq (fun k_ a w => match k_ with | 0 => SR [(1, .pointer (some ⟨B, 0, none⟩)), (3, .slice (some ⟨r, 0, none⟩) N N), (5, .int .i64 i), (6, .pointer (some ⟨wB, 0, none⟩)), (7, .int .i64 u)] 120 [] (W) a w | 1 => SR [(1, .pointer (some ⟨B, 0, none⟩)), (3, .slice (some ⟨r, 0, none⟩) N N), (5, .int .i64 i), (6, .pointer (some ⟨wB, 0, none⟩)), (71, .int .i64 u)] 120 [] (W) a w | 2 => SR [(1, .pointer (some ⟨B, 0, none⟩)), (3, .slice (some ⟨r, 0, none⟩) N N), (5, .int .i64 i), (6, .pointer (some ⟨wB, 0, none⟩)), (71, .int .i64 u), (72, .pointer (some ⟨B, 3, none⟩))] 120 [] (W) a w | 3 => SR [(1, .pointer (some ⟨B, 0, none⟩)), (3, .slice (some ⟨r, 0, none⟩) N N), (5, .int .i64 i), (6, .pointer (some ⟨wB, 0, none⟩)), (71, .int .i64 u), (73, .slice sp N cap)] 120 [] (W) a w | 4 => SR [(1, .pointer (some ⟨B, 0, none⟩)), (3, .slice (some ⟨r, 0, none⟩) N N), (5, .int .i64 i), (6, .pointer (some ⟨wB, 0, none⟩)), (71, .int .i64 u), (74, .int .i64 N)] 120 [] (W) a w | _ => SR [(1, .pointer (some ⟨B, 0, none⟩)), (3, .slice (some ⟨r, 0, none⟩) N N), (5, .int .i64 i), (6, .pointer (some ⟨wB, 0, none⟩)), (75, .bool (decide (N ≤ u)))] 120 [] (W) a w) (show SR _ _ _ _ a W from h0) ⟨?_, ?_, ?_, ?_, ?_, trivial⟩ ?_
  · intro a w hI
    have hI : SR _ _ _ _ a w := hI
    have e7 := hI.g 7 rfl
    have hw : w = W := hI.wp
    subst hw
    go_simp
    exact hI.put (d := 71) (by decide) (by simp)
  · intro a w hI
    have hI : SR _ _ _ _ a w := hI
    have e1 := hI.g 1 rfl
    have hw : w = W := hI.wp
    subst hw
    go_simp
    exact hI.put (d := 72) (by decide) (by simp)
  · intro a w hI
    have hI : SR _ _ _ _ a w := hI
    have e72 := hI.g 72 rfl
    have hw : w = W := hI.wp
    subst hw
    go_simp
    exact hI.put (d := 73) (by decide) (by simp)
  · intro a w hI
    have hI : SR _ _ _ _ a w := hI
    have e73 := hI.g 73 rfl
    have hw : w = W := hI.wp
    subst hw
    go_simp
    exact hI.put (d := 74) (by decide) (by simp)
  · intro a w hI
    have hI : SR _ _ _ _ a w := hI
    have e71 := hI.g 71 rfl
    have e74 := hI.g 74 rfl
    have hw : w = W := hI.wp
    subst hw
    go_simp
    exact hI.put (d := 75) (by decide) (by simp)
  · intro a w hI
    have hI : SR _ _ _ _ a w := hI
    have hw : w = W := hI.wp
    subst hw
    exact hQ a hI
set_option maxRecDepth 100000 in
set_option maxHeartbeats 4000000 in
theorem p18 (n : Nat) (W : World) (B r N i wB : Nat) {cv0 : Value} (cw : W.cell? ⟨wB, 0, none⟩ = some cv0) (fw : W.frozen? ⟨wB, 0, none⟩ = false)  (Q : Exit → Act → World → Prop) (a : Act) (h0 : SR [(1, .pointer (some ⟨B, 0, none⟩)), (3, .slice (some ⟨r, 0, none⟩) N N), (5, .int .i64 i), (6, .pointer (some ⟨wB, 0, none⟩))] 120 [] W a W)
    (hQ : ∀ a, SR [(1, .pointer (some ⟨B, 0, none⟩)), (3, .slice (some ⟨r, 0, none⟩) N N), (5, .int .i64 i), (6, .pointer (some ⟨wB, 0, none⟩))] 120 [] (W.setCell ⟨wB, 0, none⟩ (.int .u8 15)) a (W.setCell ⟨wB, 0, none⟩ (.int .u8 15)) → Q .normal a (W.setCell ⟨wB, 0, none⟩ (.int .u8 15))) : (regOf 18 C4).wpIn Fence.wide n Try.prog Q a W := by
  simp only [regOf, C4, Try.f4, Option.getD, Nat.reduceBEq, Bool.false_eq_true, if_true, if_false]
  refine region_sq (fun k_ a w => match k_ with | 0 => SR [(1, .pointer (some ⟨B, 0, none⟩)), (3, .slice (some ⟨r, 0, none⟩) N N), (5, .int .i64 i), (6, .pointer (some ⟨wB, 0, none⟩))] 120 [] (W) a w | 1 => SR [(1, .pointer (some ⟨B, 0, none⟩)), (3, .slice (some ⟨r, 0, none⟩) N N), (5, .int .i64 i), (6, .pointer (some ⟨wB, 0, none⟩)), (76, .pointer (some ⟨wB, 0, none⟩))] 120 [] (W) a w | _ => SR [(1, .pointer (some ⟨B, 0, none⟩)), (3, .slice (some ⟨r, 0, none⟩) N N), (5, .int .i64 i), (6, .pointer (some ⟨wB, 0, none⟩))] 120 [] (W.setCell ⟨wB, 0, none⟩ (.int .u8 15)) a w) (show SR _ _ _ _ a W from h0) ⟨?_, ?_, trivial⟩ ?_
  · intro a w hI
    have hI : SR _ _ _ _ a w := hI
    have e6 := hI.g 6 rfl
    have hw : w = W := hI.wp
    subst hw
    go_simp
    exact hI.put (d := 76) (by decide) (by simp)
  · intro a w hI
    have hI : SR _ _ _ _ a w := hI
    have e76 := hI.g 76 rfl
    have hw : w = W := hI.wp
    subst hw
    go_simp
    exact hI.none.sub (by intro p hp; simp only [List.mem_cons, List.not_mem_nil, or_false] at hp ⊢; rcases hp with h | h | h | h <;> simp [h])
  · intro a w hI
    have hI : SR _ _ _ _ a w := hI
    obtain rfl := hI.wp
    exact hQ a hI
set_option maxRecDepth 100000 in
set_option maxHeartbeats 4000000 in
theorem p19 (n : Nat) {G : World → Prop} (B r N i wB : Nat) (X Y Z : Int) (sp : Option Addr) (len cap : Nat) (G1 : Value → World → Prop) (c0 : ∀ w, G w → w.cell? ⟨B, 0, none⟩ = some (.int .i64 X)) (c1 : ∀ w, G w → w.cell? ⟨B, 1, none⟩ = some (.int .i64 Y)) (c2 : ∀ w, G w → w.cell? ⟨B, 2, none⟩ = some (.int .i64 Z)) (c3 : ∀ w, G w → w.cell? ⟨B, 3, none⟩ = some (.slice sp len cap)) (hc : ∀ m w, G w → CallsIn Fence.wide m Try.prog 19 #[.agg #[.int .i64 X, .int .i64 Y, .int .i64 Z, .slice sp len cap], .int .i64 i] w fun e w' => ∃ (q : Value), e = .returned (q) ∧ (G1 q) w') (Q : Exit → Act → World → Prop) (a : Act) (w : World) (h0 : SG [(1, .pointer (some ⟨B, 0, none⟩)), (3, .slice (some ⟨r, 0, none⟩) N N), (5, .int .i64 i), (6, .pointer (some ⟨wB, 0, none⟩))] 120 G a w)
    (hQ : ∀ (q : Value) a w, SG [(1, .pointer (some ⟨B, 0, none⟩)), (3, .slice (some ⟨r, 0, none⟩) N N), (5, .int .i64 i), (6, .pointer (some ⟨wB, 0, none⟩)), (8, q)] 120 (G1 q) a w → Q .normal a w) : (regOf 19 C4).wpIn Fence.wide n Try.prog Q a w := by
  simp only [regOf, C4, Try.f4, Option.getD, Nat.reduceBEq, Bool.false_eq_true, if_true, if_false]
  refine region_sq (fun k_ a w => match k_ with | 0 => SG [(1, .pointer (some ⟨B, 0, none⟩)), (3, .slice (some ⟨r, 0, none⟩) N N), (5, .int .i64 i), (6, .pointer (some ⟨wB, 0, none⟩))] 120 G a w | 1 => SG [(1, .pointer (some ⟨B, 0, none⟩)), (3, .slice (some ⟨r, 0, none⟩) N N), (5, .int .i64 i), (6, .pointer (some ⟨wB, 0, none⟩)), (77, .agg #[.int .i64 X, .int .i64 Y, .int .i64 Z, .slice sp len cap])] 120 G a w | 2 => SG [(1, .pointer (some ⟨B, 0, none⟩)), (3, .slice (some ⟨r, 0, none⟩) N N), (5, .int .i64 i), (6, .pointer (some ⟨wB, 0, none⟩)), (77, .agg #[.int .i64 X, .int .i64 Y, .int .i64 Z, .slice sp len cap]), (78, .int .i64 i)] 120 G a w | 3 => ∃ (q : Value), SG [(1, .pointer (some ⟨B, 0, none⟩)), (3, .slice (some ⟨r, 0, none⟩) N N), (5, .int .i64 i), (6, .pointer (some ⟨wB, 0, none⟩)), (79, q)] 120 (G1 q) a w | _ => ∃ (q : Value), SG [(1, .pointer (some ⟨B, 0, none⟩)), (3, .slice (some ⟨r, 0, none⟩) N N), (5, .int .i64 i), (6, .pointer (some ⟨wB, 0, none⟩)), (8, q)] 120 (G1 q) a w) (show SG _ _ G a w from h0) ⟨?_, ?_, ?_, ?_, trivial⟩ ?_
  · intro a w hI
    have hI : SG _ _ G a w := hI
    have e1 := hI.g 1 rfl
    have cc0 := c0 w hI.wp
    have cc1 := c1 w hI.wp
    have cc2 := c2 w hI.wp
    have cc3 := c3 w hI.wp
    go_simp
    exact hI.put (d := 77) (by decide) (by simp) hI.wp
  · intro a w hI
    have hI : SG _ _ G a w := hI
    have e5 := hI.g 5 rfl
    go_simp
    exact hI.put (d := 78) (by decide) (by simp) hI.wp
  · intro a w hI
    have hI : SG _ _ G a w := hI
    have e77 := hI.g 77 rfl
    have e78 := hI.g 78 rfl
    go_simp
    refine ⟨trivial, fun h => (by cases h), (hc (n - 1) w hI.wp).mono ?_⟩
    rintro e w' ⟨q, rfl, hg2⟩
    exact ⟨q, hI.put (d := 79) (by decide) (by simp) hg2⟩
  · rintro a w ⟨q, hI⟩
    have e79 := hI.g 79 rfl
    go_simp
    exact ⟨q, hI.put (d := 8) (by decide) (by simp) hI.wp⟩
  · rintro a w ⟨q, hI⟩
    exact hQ q a w hI
set_option maxRecDepth 100000 in
set_option maxHeartbeats 4000000 in
theorem p20 (n : Nat) (W : World) (B r N i wB : Nat) (q : Value) (Q : Exit → Act → World → Prop) (a : Act) (h0 : SR [(1, .pointer (some ⟨B, 0, none⟩)), (3, .slice (some ⟨r, 0, none⟩) N N), (5, .int .i64 i), (6, .pointer (some ⟨wB, 0, none⟩)), (8, q)] 120 [] W a W)
    (hQ : ∀ a, SR [(1, .pointer (some ⟨B, 0, none⟩)), (3, .slice (some ⟨r, 0, none⟩) N N), (5, .int .i64 i), (6, .pointer (some ⟨wB, 0, none⟩)), (8, q), (9, .int .i64 0)] 120 [] (W) a (W) → Q .normal a (W)) : (regOf 20 C4).wpIn Fence.wide n Try.prog Q a W := by
  simp only [regOf, C4, Try.f4, Option.getD, Nat.reduceBEq, Bool.false_eq_true, if_true, if_false]
  refine region_sq (fun k_ a w => match k_ with | 0 => SR [(1, .pointer (some ⟨B, 0, none⟩)), (3, .slice (some ⟨r, 0, none⟩) N N), (5, .int .i64 i), (6, .pointer (some ⟨wB, 0, none⟩)), (8, q)] 120 [] (W) a w | _ => SR [(1, .pointer (some ⟨B, 0, none⟩)), (3, .slice (some ⟨r, 0, none⟩) N N), (5, .int .i64 i), (6, .pointer (some ⟨wB, 0, none⟩)), (8, q), (9, .int .i64 0)] 120 [] (W) a w) (show SR _ _ _ _ a W from h0) ⟨?_, trivial⟩ ?_
  · intro a w hI
    have hI : SR _ _ _ _ a w := hI
    have hw : w = W := hI.wp
    subst hw
    go_simp
    exact hI.put (d := 9) (by decide) (by simp)
  · intro a w hI
    have hI : SR _ _ _ _ a w := hI
    have hw : w = W := hI.wp
    subst hw
    exact hQ a hI
set_option maxRecDepth 100000 in
set_option maxHeartbeats 4000000 in
theorem p21 (n : Nat) (W : World) (B r N i wB M qc j : Nat) (qp : Option Addr) (Q : Exit → Act → World → Prop) (a : Act) (h0 : SR [(1, .pointer (some ⟨B, 0, none⟩)), (3, .slice (some ⟨r, 0, none⟩) N N), (5, .int .i64 i), (6, .pointer (some ⟨wB, 0, none⟩)), (8, .slice qp M qc), (9, .int .i64 j)] 120 [] W a W)
    (hQ : ∀ a, SR [(1, .pointer (some ⟨B, 0, none⟩)), (3, .slice (some ⟨r, 0, none⟩) N N), (5, .int .i64 i), (6, .pointer (some ⟨wB, 0, none⟩)), (8, .slice qp M qc), (9, .int .i64 j), (83, .bool (decide (j < M)))] 120 [] (W) a (W) → Q .normal a (W)) : (regOf 21 C4).wpIn Fence.wide n Try.prog Q a W := by
  simp only [regOf, C4, Try.f4, Option.getD, Nat.reduceBEq, Bool.false_eq_true, if_true, if_false]
  refine region_sq (fun k_ a w => match k_ with | 0 => SR [(1, .pointer (some ⟨B, 0, none⟩)), (3, .slice (some ⟨r, 0, none⟩) N N), (5, .int .i64 i), (6, .pointer (some ⟨wB, 0, none⟩)), (8, .slice qp M qc), (9, .int .i64 j)] 120 [] (W) a w | 1 => SR [(1, .pointer (some ⟨B, 0, none⟩)), (3, .slice (some ⟨r, 0, none⟩) N N), (5, .int .i64 i), (6, .pointer (some ⟨wB, 0, none⟩)), (8, .slice qp M qc), (9, .int .i64 j), (80, .int .i64 j)] 120 [] (W) a w | 2 => SR [(1, .pointer (some ⟨B, 0, none⟩)), (3, .slice (some ⟨r, 0, none⟩) N N), (5, .int .i64 i), (6, .pointer (some ⟨wB, 0, none⟩)), (8, .slice qp M qc), (9, .int .i64 j), (80, .int .i64 j), (81, .slice qp M qc)] 120 [] (W) a w | 3 => SR [(1, .pointer (some ⟨B, 0, none⟩)), (3, .slice (some ⟨r, 0, none⟩) N N), (5, .int .i64 i), (6, .pointer (some ⟨wB, 0, none⟩)), (8, .slice qp M qc), (9, .int .i64 j), (80, .int .i64 j), (82, .int .i64 M)] 120 [] (W) a w | _ => SR [(1, .pointer (some ⟨B, 0, none⟩)), (3, .slice (some ⟨r, 0, none⟩) N N), (5, .int .i64 i), (6, .pointer (some ⟨wB, 0, none⟩)), (8, .slice qp M qc), (9, .int .i64 j), (83, .bool (decide (j < M)))] 120 [] (W) a w) (show SR _ _ _ _ a W from h0) ⟨?_, ?_, ?_, ?_, trivial⟩ ?_
  · intro a w hI
    have hI : SR _ _ _ _ a w := hI
    have e9 := hI.g 9 rfl
    have hw : w = W := hI.wp
    subst hw
    go_simp
    exact hI.put (d := 80) (by decide) (by simp)
  · intro a w hI
    have hI : SR _ _ _ _ a w := hI
    have e8 := hI.g 8 rfl
    have hw : w = W := hI.wp
    subst hw
    go_simp
    exact hI.put (d := 81) (by decide) (by simp)
  · intro a w hI
    have hI : SR _ _ _ _ a w := hI
    have e81 := hI.g 81 rfl
    have hw : w = W := hI.wp
    subst hw
    go_simp
    exact hI.put (d := 82) (by decide) (by simp)
  · intro a w hI
    have hI : SR _ _ _ _ a w := hI
    have e80 := hI.g 80 rfl
    have e82 := hI.g 82 rfl
    have hw : w = W := hI.wp
    subst hw
    go_simp
    exact hI.put (d := 83) (by decide) (by simp)
  · intro a w hI
    have hI : SR _ _ _ _ a w := hI
    have hw : w = W := hI.wp
    subst hw
    exact hQ a hI
set_option maxRecDepth 100000 in
set_option maxHeartbeats 4000000 in
theorem p22 (n : Nat) (W : World) (B r N i wB M qc j : Nat) (qp : Option Addr) (hj : j < 9000000000) (Q : Exit → Act → World → Prop) (a : Act) (h0 : SR [(1, .pointer (some ⟨B, 0, none⟩)), (3, .slice (some ⟨r, 0, none⟩) N N), (5, .int .i64 i), (6, .pointer (some ⟨wB, 0, none⟩)), (8, .slice qp M qc), (9, .int .i64 j)] 120 [] W a W)
    (hQ : ∀ a, SR [(1, .pointer (some ⟨B, 0, none⟩)), (3, .slice (some ⟨r, 0, none⟩) N N), (5, .int .i64 i), (6, .pointer (some ⟨wB, 0, none⟩)), (8, .slice qp M qc), (9, .int .i64 ((j : Int) + 1))] 120 [] (W) a (W) → Q .normal a (W)) : (regOf 22 C4).wpIn Fence.wide n Try.prog Q a W := by
  simp only [regOf, C4, Try.f4, Option.getD, Nat.reduceBEq, Bool.false_eq_true, if_true, if_false]
  refine region_sq (fun k_ a w => match k_ with | 0 => SR [(1, .pointer (some ⟨B, 0, none⟩)), (3, .slice (some ⟨r, 0, none⟩) N N), (5, .int .i64 i), (6, .pointer (some ⟨wB, 0, none⟩)), (8, .slice qp M qc), (9, .int .i64 j)] 120 [] (W) a w | 1 => SR [(1, .pointer (some ⟨B, 0, none⟩)), (3, .slice (some ⟨r, 0, none⟩) N N), (5, .int .i64 i), (6, .pointer (some ⟨wB, 0, none⟩)), (8, .slice qp M qc), (84, .int .i64 j)] 120 [] (W) a w | 2 => SR [(1, .pointer (some ⟨B, 0, none⟩)), (3, .slice (some ⟨r, 0, none⟩) N N), (5, .int .i64 i), (6, .pointer (some ⟨wB, 0, none⟩)), (8, .slice qp M qc), (85, .int .i64 ((j : Int) + 1))] 120 [] (W) a w | _ => SR [(1, .pointer (some ⟨B, 0, none⟩)), (3, .slice (some ⟨r, 0, none⟩) N N), (5, .int .i64 i), (6, .pointer (some ⟨wB, 0, none⟩)), (8, .slice qp M qc), (9, .int .i64 ((j : Int) + 1))] 120 [] (W) a w) (show SR _ _ _ _ a W from h0) ⟨?_, ?_, ?_, trivial⟩ ?_
  · intro a w hI
    have hI : SR _ _ _ _ a w := hI
    have e9 := hI.g 9 rfl
    have hw : w = W := hI.wp
    subst hw
    go_simp
    exact hI.put (d := 84) (by decide) (by simp)
  · intro a w hI
    have hI : SR _ _ _ _ a w := hI
    have e84 := hI.g 84 rfl
    have hw : w = W := hI.wp
    subst hw
    have hw1 : IntKind.i64.wrap ((j : Int) + 1) = (j : Int) + 1 := IntWalk.i64_in _ (by omega)
    go_simp
    exact hI.put (d := 85) (by decide) (by simp)
  · intro a w hI
    have hI : SR _ _ _ _ a w := hI
    have e85 := hI.g 85 rfl
    have hw : w = W := hI.wp
    subst hw
    go_simp
    exact hI.put (d := 9) (by decide) (by simp)
  · intro a w hI
    have hI : SR _ _ _ _ a w := hI
    have hw : w = W := hI.wp
    subst hw
    exact hQ a hI
set_option maxRecDepth 100000 in
set_option maxHeartbeats 4000000 in
theorem p23 (n : Nat) (W : World) (B r N i wB M nb qc j t s2 l2 : Nat) (hj : j < M) (ht : t < N) (cn : W.cell? ⟨nb, j, none⟩ = some (.int .i64 t)) (lt0 : W.cell? ⟨r, t * 2, none⟩ = some (.int .u8 s2)) (lt1 : W.cell? ⟨r, t * 2 + 1, none⟩ = some (.int .u8 l2)) (Q : Exit → Act → World → Prop) (a : Act) (h0 : SR [(1, .pointer (some ⟨B, 0, none⟩)), (3, .slice (some ⟨r, 0, none⟩) N N), (5, .int .i64 i), (6, .pointer (some ⟨wB, 0, none⟩)), (8, .slice (some ⟨nb, 0, none⟩) M qc), (9, .int .i64 j)] 120 [] W a W)
    (hQ : ∀ a, SR [(1, .pointer (some ⟨B, 0, none⟩)), (3, .slice (some ⟨r, 0, none⟩) N N), (5, .int .i64 i), (6, .pointer (some ⟨wB, 0, none⟩)), (8, .slice (some ⟨nb, 0, none⟩) M qc), (9, .int .i64 j), (10, .pointer (some ⟨W.heap.size, 0, none⟩))] 120 [] (W.alloc (.cells #[.int .u8 s2, .int .u8 l2] 37)) a (W.alloc (.cells #[.int .u8 s2, .int .u8 l2] 37)) → Q .normal a (W.alloc (.cells #[.int .u8 s2, .int .u8 l2] 37))) : (regOf 23 C4).wpIn Fence.wide n Try.prog Q a W := by
  simp only [regOf, C4, Try.f4, Option.getD, Nat.reduceBEq, Bool.false_eq_true, if_true, if_false]
  refine region_sq (fun k_ a w => match k_ with | 0 => SR [(1, .pointer (some ⟨B, 0, none⟩)), (3, .slice (some ⟨r, 0, none⟩) N N), (5, .int .i64 i), (6, .pointer (some ⟨wB, 0, none⟩)), (8, .slice (some ⟨nb, 0, none⟩) M qc), (9, .int .i64 j)] 120 [] (W) a w | 1 => SR [(1, .pointer (some ⟨B, 0, none⟩)), (3, .slice (some ⟨r, 0, none⟩) N N), (5, .int .i64 i), (6, .pointer (some ⟨wB, 0, none⟩)), (8, .slice (some ⟨nb, 0, none⟩) M qc), (9, .int .i64 j), (86, .slice (some ⟨r, 0, none⟩) N N)] 120 [] (W) a w | 2 => SR [(1, .pointer (some ⟨B, 0, none⟩)), (3, .slice (some ⟨r, 0, none⟩) N N), (5, .int .i64 i), (6, .pointer (some ⟨wB, 0, none⟩)), (8, .slice (some ⟨nb, 0, none⟩) M qc), (9, .int .i64 j), (86, .slice (some ⟨r, 0, none⟩) N N), (87, .slice (some ⟨nb, 0, none⟩) M qc)] 120 [] (W) a w | 3 => SR [(1, .pointer (some ⟨B, 0, none⟩)), (3, .slice (some ⟨r, 0, none⟩) N N), (5, .int .i64 i), (6, .pointer (some ⟨wB, 0, none⟩)), (8, .slice (some ⟨nb, 0, none⟩) M qc), (9, .int .i64 j), (86, .slice (some ⟨r, 0, none⟩) N N), (87, .slice (some ⟨nb, 0, none⟩) M qc), (88, .int .i64 j)] 120 [] (W) a w | 4 => SR [(1, .pointer (some ⟨B, 0, none⟩)), (3, .slice (some ⟨r, 0, none⟩) N N), (5, .int .i64 i), (6, .pointer (some ⟨wB, 0, none⟩)), (8, .slice (some ⟨nb, 0, none⟩) M qc), (9, .int .i64 j), (86, .slice (some ⟨r, 0, none⟩) N N), (89, .pointer (some ⟨nb, j, none⟩))] 120 [] (W) a w | 5 => SR [(1, .pointer (some ⟨B, 0, none⟩)), (3, .slice (some ⟨r, 0, none⟩) N N), (5, .int .i64 i), (6, .pointer (some ⟨wB, 0, none⟩)), (8, .slice (some ⟨nb, 0, none⟩) M qc), (9, .int .i64 j), (86, .slice (some ⟨r, 0, none⟩) N N), (90, .int .i64 t)] 120 [] (W) a w | 6 => SR [(1, .pointer (some ⟨B, 0, none⟩)), (3, .slice (some ⟨r, 0, none⟩) N N), (5, .int .i64 i), (6, .pointer (some ⟨wB, 0, none⟩)), (8, .slice (some ⟨nb, 0, none⟩) M qc), (9, .int .i64 j), (91, .pointer (some ⟨r, t * 2, none⟩))] 120 [] (W) a w | 7 => SR [(1, .pointer (some ⟨B, 0, none⟩)), (3, .slice (some ⟨r, 0, none⟩) N N), (5, .int .i64 i), (6, .pointer (some ⟨wB, 0, none⟩)), (8, .slice (some ⟨nb, 0, none⟩) M qc), (9, .int .i64 j), (92, .agg #[.int .u8 s2, .int .u8 l2])] 120 [] (W) a w | 8 => SR [(1, .pointer (some ⟨B, 0, none⟩)), (3, .slice (some ⟨r, 0, none⟩) N N), (5, .int .i64 i), (6, .pointer (some ⟨wB, 0, none⟩)), (8, .slice (some ⟨nb, 0, none⟩) M qc), (9, .int .i64 j), (92, .agg #[.int .u8 s2, .int .u8 l2]), (10, .pointer (some ⟨W.heap.size, 0, none⟩))] 120 [] (W.alloc (.cells #[.int .u8 0, .int .u8 0] 37)) a w | _ => SR [(1, .pointer (some ⟨B, 0, none⟩)), (3, .slice (some ⟨r, 0, none⟩) N N), (5, .int .i64 i), (6, .pointer (some ⟨wB, 0, none⟩)), (8, .slice (some ⟨nb, 0, none⟩) M qc), (9, .int .i64 j), (10, .pointer (some ⟨W.heap.size, 0, none⟩))] 120 [] (W.alloc (.cells #[.int .u8 s2, .int .u8 l2] 37)) a w) (show SR _ _ _ _ a W from h0) ⟨?_, ?_, ?_, ?_, ?_, ?_, ?_, ?_, ?_, trivial⟩ ?_
  · intro a w hI
    have hI : SR _ _ _ _ a w := hI
    have e3 := hI.g 3 rfl
    have hw : w = W := hI.wp
    subst hw
    go_simp
    exact hI.put (d := 86) (by decide) (by simp)
  · intro a w hI
    have hI : SR _ _ _ _ a w := hI
    have e8 := hI.g 8 rfl
    have hw : w = W := hI.wp
    subst hw
    go_simp
    exact hI.put (d := 87) (by decide) (by simp)
  · intro a w hI
    have hI : SR _ _ _ _ a w := hI
    have e9 := hI.g 9 rfl
    have hw : w = W := hI.wp
    subst hw
    go_simp
    exact hI.put (d := 88) (by decide) (by simp)
  · intro a w hI
    have hI : SR _ _ _ _ a w := hI
    have e87 := hI.g 87 rfl
    have e88 := hI.g 88 rfl
    have hw : w = W := hI.wp
    subst hw
    have q1_3 : (0 : Int) ≤ j := by omega
    have q2_3 : (j : Int) < M := by omega
    go_simp
    exact hI.put (d := 89) (by decide) (by simp)
  · intro a w hI
    have hI : SR _ _ _ _ a w := hI
    have e89 := hI.g 89 rfl
    have hw : w = W := hI.wp
    subst hw
    go_simp
    exact hI.put (d := 90) (by decide) (by simp)
  · intro a w hI
    have hI : SR _ _ _ _ a w := hI
    have e86 := hI.g 86 rfl
    have e90 := hI.g 90 rfl
    have hw : w = W := hI.wp
    subst hw
    have q1_5 : (0 : Int) ≤ t := by omega
    have q2_5 : (t : Int) < N := by omega
    go_simp
    exact hI.put (d := 91) (by decide) (by simp)
  · intro a w hI
    have hI : SR _ _ _ _ a w := hI
    have e91 := hI.g 91 rfl
    have hw : w = W := hI.wp
    subst hw
    go_simp
    exact hI.put (d := 92) (by decide) (by simp)
  · intro a w hI
    have hI : SR _ _ _ _ a w := hI
    have hw : w = W := hI.wp
    subst hw
    go_simp
    exact hI.put (d := 10) (by decide) (by simp)
  · intro a w hI
    have hI : SR _ _ _ _ a w := hI
    have e10 := hI.g 10 rfl
    have e92 := hI.g 92 rfl
    obtain rfl := hI.wp
    have hn0 := cell2_new W 37 (.int .u8 0) (.int .u8 0)
    obtain ⟨hn1, hn2, hn3, hn5⟩ := hn0
    have hn4 := alloc_set2 W 37 (.int .u8 0) (.int .u8 0) (.int .u8 s2) (.int .u8 l2)
    go_simp
    exact hI.none.sub (by intro p hp; simp only [List.mem_cons, List.not_mem_nil, or_false] at hp ⊢; rcases hp with h | h | h | h | h | h | h <;> simp [h])
  · intro a w hI
    have hI : SR _ _ _ _ a w := hI
    obtain rfl := hI.wp
    exact hQ a hI
set_option maxRecDepth 100000 in
set_option maxHeartbeats 4000000 in
theorem p24t (n : Nat) (W : World) (B r N i wB M nb qc j sB : Nat) (ws s2 : Nat) (h15 : ws ≤ 15) (hc : ws + 1 < s2) (cs0 : W.cell? ⟨sB, 0, none⟩ = some (.int .u8 s2)) (cw0 : W.cell? ⟨wB, 0, none⟩ = some (.int .u8 ws)) (Q : Exit → Act → World → Prop) (a : Act) (h0 : SR [(1, .pointer (some ⟨B, 0, none⟩)), (3, .slice (some ⟨r, 0, none⟩) N N), (5, .int .i64 i), (6, .pointer (some ⟨wB, 0, none⟩)), (8, .slice (some ⟨nb, 0, none⟩) M qc), (9, .int .i64 j), (10, .pointer (some ⟨sB, 0, none⟩))] 120 [] W a W)
    (hQ : ∀ a, SR [(1, .pointer (some ⟨B, 0, none⟩)), (3, .slice (some ⟨r, 0, none⟩) N N), (5, .int .i64 i), (6, .pointer (some ⟨wB, 0, none⟩)), (8, .slice (some ⟨nb, 0, none⟩) M qc), (9, .int .i64 j), (10, .pointer (some ⟨sB, 0, none⟩)), (98, .bool true)] 120 [] (W) a (W) → Q .normal a (W)) : (regOf 24 C4).wpIn Fence.wide n Try.prog Q a W := by
  simp only [regOf, C4, Try.f4, Option.getD, Nat.reduceBEq, Bool.false_eq_true, if_true, if_false]
  refine region_sq (fun k_ a w => match k_ with | 0 => SR [(1, .pointer (some ⟨B, 0, none⟩)), (3, .slice (some ⟨r, 0, none⟩) N N), (5, .int .i64 i), (6, .pointer (some ⟨wB, 0, none⟩)), (8, .slice (some ⟨nb, 0, none⟩) M qc), (9, .int .i64 j), (10, .pointer (some ⟨sB, 0, none⟩))] 120 [] (W) a w | 1 => SR [(1, .pointer (some ⟨B, 0, none⟩)), (3, .slice (some ⟨r, 0, none⟩) N N), (5, .int .i64 i), (6, .pointer (some ⟨wB, 0, none⟩)), (8, .slice (some ⟨nb, 0, none⟩) M qc), (9, .int .i64 j), (10, .pointer (some ⟨sB, 0, none⟩)), (93, .pointer (some ⟨sB, 0, none⟩))] 120 [] (W) a w | 2 => SR [(1, .pointer (some ⟨B, 0, none⟩)), (3, .slice (some ⟨r, 0, none⟩) N N), (5, .int .i64 i), (6, .pointer (some ⟨wB, 0, none⟩)), (8, .slice (some ⟨nb, 0, none⟩) M qc), (9, .int .i64 j), (10, .pointer (some ⟨sB, 0, none⟩)), (94, .int .u8 s2)] 120 [] (W) a w | 3 => SR [(1, .pointer (some ⟨B, 0, none⟩)), (3, .slice (some ⟨r, 0, none⟩) N N), (5, .int .i64 i), (6, .pointer (some ⟨wB, 0, none⟩)), (8, .slice (some ⟨nb, 0, none⟩) M qc), (9, .int .i64 j), (10, .pointer (some ⟨sB, 0, none⟩)), (94, .int .u8 s2), (95, .pointer (some ⟨wB, 0, none⟩))] 120 [] (W) a w | 4 => SR [(1, .pointer (some ⟨B, 0, none⟩)), (3, .slice (some ⟨r, 0, none⟩) N N), (5, .int .i64 i), (6, .pointer (some ⟨wB, 0, none⟩)), (8, .slice (some ⟨nb, 0, none⟩) M qc), (9, .int .i64 j), (10, .pointer (some ⟨sB, 0, none⟩)), (94, .int .u8 s2), (96, .int .u8 ws)] 120 [] (W) a w | 5 => SR [(1, .pointer (some ⟨B, 0, none⟩)), (3, .slice (some ⟨r, 0, none⟩) N N), (5, .int .i64 i), (6, .pointer (some ⟨wB, 0, none⟩)), (8, .slice (some ⟨nb, 0, none⟩) M qc), (9, .int .i64 j), (10, .pointer (some ⟨sB, 0, none⟩)), (94, .int .u8 s2), (97, .int .u8 ((ws : Int) + 1))] 120 [] (W) a w | _ => SR [(1, .pointer (some ⟨B, 0, none⟩)), (3, .slice (some ⟨r, 0, none⟩) N N), (5, .int .i64 i), (6, .pointer (some ⟨wB, 0, none⟩)), (8, .slice (some ⟨nb, 0, none⟩) M qc), (9, .int .i64 j), (10, .pointer (some ⟨sB, 0, none⟩)), (98, .bool true)] 120 [] (W) a w) (show SR _ _ _ _ a W from h0) ⟨?_, ?_, ?_, ?_, ?_, ?_, trivial⟩ ?_
  · intro a w hI
    have hI : SR _ _ _ _ a w := hI
    have e10 := hI.g 10 rfl
    have hw : w = W := hI.wp
    subst hw
    go_simp
    exact hI.put (d := 93) (by decide) (by simp)
  · intro a w hI
    have hI : SR _ _ _ _ a w := hI
    have e93 := hI.g 93 rfl
    have hw : w = W := hI.wp
    subst hw
    go_simp
    exact hI.put (d := 94) (by decide) (by simp)
  · intro a w hI
    have hI : SR _ _ _ _ a w := hI
    have e6 := hI.g 6 rfl
    have hw : w = W := hI.wp
    subst hw
    go_simp
    exact hI.put (d := 95) (by decide) (by simp)
  · intro a w hI
    have hI : SR _ _ _ _ a w := hI
    have e95 := hI.g 95 rfl
    have hw : w = W := hI.wp
    subst hw
    go_simp
    exact hI.put (d := 96) (by decide) (by simp)
  · intro a w hI
    have hI : SR _ _ _ _ a w := hI
    have e96 := hI.g 96 rfl
    have hw : w = W := hI.wp
    subst hw
    have hw : IntKind.u8.wrap ((ws : Int) + 1) = (ws : Int) + 1 := IntWalk.u8_in _ (by omega)
    go_simp
    exact hI.put (d := 97) (by decide) (by simp)
  · intro a w hI
    have hI : SR _ _ _ _ a w := hI
    have e94 := hI.g 94 rfl
    have e97 := hI.g 97 rfl
    have hw : w = W := hI.wp
    subst hw
    have z1 : (ws : Int) + 1 < (s2 : Int) := by omega
    go_simp
    exact hI.put (d := 98) (by decide) (by simp)
  · intro a w hI
    have hI : SR _ _ _ _ a w := hI
    have hw : w = W := hI.wp
    subst hw
    exact hQ a hI
set_option maxRecDepth 100000 in
set_option maxHeartbeats 4000000 in
theorem p24f (n : Nat) (W : World) (B r N i wB M nb qc j sB : Nat) (ws s2 : Nat) (h15 : ws ≤ 15) (hc : ¬ ws + 1 < s2) (cs0 : W.cell? ⟨sB, 0, none⟩ = some (.int .u8 s2)) (cw0 : W.cell? ⟨wB, 0, none⟩ = some (.int .u8 ws)) (Q : Exit → Act → World → Prop) (a : Act) (h0 : SR [(1, .pointer (some ⟨B, 0, none⟩)), (3, .slice (some ⟨r, 0, none⟩) N N), (5, .int .i64 i), (6, .pointer (some ⟨wB, 0, none⟩)), (8, .slice (some ⟨nb, 0, none⟩) M qc), (9, .int .i64 j), (10, .pointer (some ⟨sB, 0, none⟩))] 120 [] W a W)
    (hQ : ∀ a, SR [(1, .pointer (some ⟨B, 0, none⟩)), (3, .slice (some ⟨r, 0, none⟩) N N), (5, .int .i64 i), (6, .pointer (some ⟨wB, 0, none⟩)), (8, .slice (some ⟨nb, 0, none⟩) M qc), (9, .int .i64 j), (10, .pointer (some ⟨sB, 0, none⟩)), (98, .bool false)] 120 [] (W) a (W) → Q .normal a (W)) : (regOf 24 C4).wpIn Fence.wide n Try.prog Q a W := by
  simp only [regOf, C4, Try.f4, Option.getD, Nat.reduceBEq, Bool.false_eq_true, if_true, if_false]
  refine region_sq (fun k_ a w => match k_ with | 0 => SR [(1, .pointer (some ⟨B, 0, none⟩)), (3, .slice (some ⟨r, 0, none⟩) N N), (5, .int .i64 i), (6, .pointer (some ⟨wB, 0, none⟩)), (8, .slice (some ⟨nb, 0, none⟩) M qc), (9, .int .i64 j), (10, .pointer (some ⟨sB, 0, none⟩))] 120 [] (W) a w | 1 => SR [(1, .pointer (some ⟨B, 0, none⟩)), (3, .slice (some ⟨r, 0, none⟩) N N), (5, .int .i64 i), (6, .pointer (some ⟨wB, 0, none⟩)), (8, .slice (some ⟨nb, 0, none⟩) M qc), (9, .int .i64 j), (10, .pointer (some ⟨sB, 0, none⟩)), (93, .pointer (some ⟨sB, 0, none⟩))] 120 [] (W) a w | 2 => SR [(1, .pointer (some ⟨B, 0, none⟩)), (3, .slice (some ⟨r, 0, none⟩) N N), (5, .int .i64 i), (6, .pointer (some ⟨wB, 0, none⟩)), (8, .slice (some ⟨nb, 0, none⟩) M qc), (9, .int .i64 j), (10, .pointer (some ⟨sB, 0, none⟩)), (94, .int .u8 s2)] 120 [] (W) a w | 3 => SR [(1, .pointer (some ⟨B, 0, none⟩)), (3, .slice (some ⟨r, 0, none⟩) N N), (5, .int .i64 i), (6, .pointer (some ⟨wB, 0, none⟩)), (8, .slice (some ⟨nb, 0, none⟩) M qc), (9, .int .i64 j), (10, .pointer (some ⟨sB, 0, none⟩)), (94, .int .u8 s2), (95, .pointer (some ⟨wB, 0, none⟩))] 120 [] (W) a w | 4 => SR [(1, .pointer (some ⟨B, 0, none⟩)), (3, .slice (some ⟨r, 0, none⟩) N N), (5, .int .i64 i), (6, .pointer (some ⟨wB, 0, none⟩)), (8, .slice (some ⟨nb, 0, none⟩) M qc), (9, .int .i64 j), (10, .pointer (some ⟨sB, 0, none⟩)), (94, .int .u8 s2), (96, .int .u8 ws)] 120 [] (W) a w | 5 => SR [(1, .pointer (some ⟨B, 0, none⟩)), (3, .slice (some ⟨r, 0, none⟩) N N), (5, .int .i64 i), (6, .pointer (some ⟨wB, 0, none⟩)), (8, .slice (some ⟨nb, 0, none⟩) M qc), (9, .int .i64 j), (10, .pointer (some ⟨sB, 0, none⟩)), (94, .int .u8 s2), (97, .int .u8 ((ws : Int) + 1))] 120 [] (W) a w | _ => SR [(1, .pointer (some ⟨B, 0, none⟩)), (3, .slice (some ⟨r, 0, none⟩) N N), (5, .int .i64 i), (6, .pointer (some ⟨wB, 0, none⟩)), (8, .slice (some ⟨nb, 0, none⟩) M qc), (9, .int .i64 j), (10, .pointer (some ⟨sB, 0, none⟩)), (98, .bool false)] 120 [] (W) a w) (show SR _ _ _ _ a W from h0) ⟨?_, ?_, ?_, ?_, ?_, ?_, trivial⟩ ?_
  · intro a w hI
    have hI : SR _ _ _ _ a w := hI
    have e10 := hI.g 10 rfl
    have hw : w = W := hI.wp
    subst hw
    go_simp
    exact hI.put (d := 93) (by decide) (by simp)
  · intro a w hI
    have hI : SR _ _ _ _ a w := hI
    have e93 := hI.g 93 rfl
    have hw : w = W := hI.wp
    subst hw
    go_simp
    exact hI.put (d := 94) (by decide) (by simp)
  · intro a w hI
    have hI : SR _ _ _ _ a w := hI
    have e6 := hI.g 6 rfl
    have hw : w = W := hI.wp
    subst hw
    go_simp
    exact hI.put (d := 95) (by decide) (by simp)
  · intro a w hI
    have hI : SR _ _ _ _ a w := hI
    have e95 := hI.g 95 rfl
    have hw : w = W := hI.wp
    subst hw
    go_simp
    exact hI.put (d := 96) (by decide) (by simp)
  · intro a w hI
    have hI : SR _ _ _ _ a w := hI
    have e96 := hI.g 96 rfl
    have hw : w = W := hI.wp
    subst hw
    have hw : IntKind.u8.wrap ((ws : Int) + 1) = (ws : Int) + 1 := IntWalk.u8_in _ (by omega)
    go_simp
    exact hI.put (d := 97) (by decide) (by simp)
  · intro a w hI
    have hI : SR _ _ _ _ a w := hI
    have e94 := hI.g 94 rfl
    have e97 := hI.g 97 rfl
    have hw : w = W := hI.wp
    subst hw
    have z1 : ¬ (ws : Int) + 1 < (s2 : Int) := by omega
    go_simp
    exact hI.put (d := 98) (by decide) (by simp)
  · intro a w hI
    have hI : SR _ _ _ _ a w := hI
    have hw : w = W := hI.wp
    subst hw
    exact hQ a hI
set_option maxRecDepth 100000 in
set_option maxHeartbeats 4000000 in
theorem p26t (n : Nat) (W : World) (B r N i wB M nb qc j sB : Nat) (wl l2 : Nat) (h15 : wl ≤ 15) (hc : wl + 1 < l2) (cs1 : W.cell? ⟨sB, 1, none⟩ = some (.int .u8 l2)) (cw1 : W.cell? ⟨wB, 1, none⟩ = some (.int .u8 wl)) (Q : Exit → Act → World → Prop) (a : Act) (h0 : SR [(1, .pointer (some ⟨B, 0, none⟩)), (3, .slice (some ⟨r, 0, none⟩) N N), (5, .int .i64 i), (6, .pointer (some ⟨wB, 0, none⟩)), (8, .slice (some ⟨nb, 0, none⟩) M qc), (9, .int .i64 j), (10, .pointer (some ⟨sB, 0, none⟩))] 120 [] W a W)
    (hQ : ∀ a, SR [(1, .pointer (some ⟨B, 0, none⟩)), (3, .slice (some ⟨r, 0, none⟩) N N), (5, .int .i64 i), (6, .pointer (some ⟨wB, 0, none⟩)), (8, .slice (some ⟨nb, 0, none⟩) M qc), (9, .int .i64 j), (10, .pointer (some ⟨sB, 0, none⟩)), (108, .bool true)] 120 [] (W) a (W) → Q .normal a (W)) : (regOf 26 C4).wpIn Fence.wide n Try.prog Q a W := by
  simp only [regOf, C4, Try.f4, Option.getD, Nat.reduceBEq, Bool.false_eq_true, if_true, if_false]
  refine region_sq (fun k_ a w => match k_ with | 0 => SR [(1, .pointer (some ⟨B, 0, none⟩)), (3, .slice (some ⟨r, 0, none⟩) N N), (5, .int .i64 i), (6, .pointer (some ⟨wB, 0, none⟩)), (8, .slice (some ⟨nb, 0, none⟩) M qc), (9, .int .i64 j), (10, .pointer (some ⟨sB, 0, none⟩))] 120 [] (W) a w | 1 => SR [(1, .pointer (some ⟨B, 0, none⟩)), (3, .slice (some ⟨r, 0, none⟩) N N), (5, .int .i64 i), (6, .pointer (some ⟨wB, 0, none⟩)), (8, .slice (some ⟨nb, 0, none⟩) M qc), (9, .int .i64 j), (10, .pointer (some ⟨sB, 0, none⟩)), (103, .pointer (some ⟨sB, 1, none⟩))] 120 [] (W) a w | 2 => SR [(1, .pointer (some ⟨B, 0, none⟩)), (3, .slice (some ⟨r, 0, none⟩) N N), (5, .int .i64 i), (6, .pointer (some ⟨wB, 0, none⟩)), (8, .slice (some ⟨nb, 0, none⟩) M qc), (9, .int .i64 j), (10, .pointer (some ⟨sB, 0, none⟩)), (104, .int .u8 l2)] 120 [] (W) a w | 3 => SR [(1, .pointer (some ⟨B, 0, none⟩)), (3, .slice (some ⟨r, 0, none⟩) N N), (5, .int .i64 i), (6, .pointer (some ⟨wB, 0, none⟩)), (8, .slice (some ⟨nb, 0, none⟩) M qc), (9, .int .i64 j), (10, .pointer (some ⟨sB, 0, none⟩)), (104, .int .u8 l2), (105, .pointer (some ⟨wB, 1, none⟩))] 120 [] (W) a w | 4 => SR [(1, .pointer (some ⟨B, 0, none⟩)), (3, .slice (some ⟨r, 0, none⟩) N N), (5, .int .i64 i), (6, .pointer (some ⟨wB, 0, none⟩)), (8, .slice (some ⟨nb, 0, none⟩) M qc), (9, .int .i64 j), (10, .pointer (some ⟨sB, 0, none⟩)), (104, .int .u8 l2), (106, .int .u8 wl)] 120 [] (W) a w | 5 => SR [(1, .pointer (some ⟨B, 0, none⟩)), (3, .slice (some ⟨r, 0, none⟩) N N), (5, .int .i64 i), (6, .pointer (some ⟨wB, 0, none⟩)), (8, .slice (some ⟨nb, 0, none⟩) M qc), (9, .int .i64 j), (10, .pointer (some ⟨sB, 0, none⟩)), (104, .int .u8 l2), (107, .int .u8 ((wl : Int) + 1))] 120 [] (W) a w | _ => SR [(1, .pointer (some ⟨B, 0, none⟩)), (3, .slice (some ⟨r, 0, none⟩) N N), (5, .int .i64 i), (6, .pointer (some ⟨wB, 0, none⟩)), (8, .slice (some ⟨nb, 0, none⟩) M qc), (9, .int .i64 j), (10, .pointer (some ⟨sB, 0, none⟩)), (108, .bool true)] 120 [] (W) a w) (show SR _ _ _ _ a W from h0) ⟨?_, ?_, ?_, ?_, ?_, ?_, trivial⟩ ?_
  · intro a w hI
    have hI : SR _ _ _ _ a w := hI
    have e10 := hI.g 10 rfl
    have hw : w = W := hI.wp
    subst hw
    go_simp
    exact hI.put (d := 103) (by decide) (by simp)
  · intro a w hI
    have hI : SR _ _ _ _ a w := hI
    have e103 := hI.g 103 rfl
    have hw : w = W := hI.wp
    subst hw
    go_simp
    exact hI.put (d := 104) (by decide) (by simp)
  · intro a w hI
    have hI : SR _ _ _ _ a w := hI
    have e6 := hI.g 6 rfl
    have hw : w = W := hI.wp
    subst hw
    go_simp
    exact hI.put (d := 105) (by decide) (by simp)
  · intro a w hI
    have hI : SR _ _ _ _ a w := hI
    have e105 := hI.g 105 rfl
    have hw : w = W := hI.wp
    subst hw
    go_simp
    exact hI.put (d := 106) (by decide) (by simp)
  · intro a w hI
    have hI : SR _ _ _ _ a w := hI
    have e106 := hI.g 106 rfl
    have hw : w = W := hI.wp
    subst hw
    have hw : IntKind.u8.wrap ((wl : Int) + 1) = (wl : Int) + 1 := IntWalk.u8_in _ (by omega)
    go_simp
    exact hI.put (d := 107) (by decide) (by simp)
  · intro a w hI
    have hI : SR _ _ _ _ a w := hI
    have e104 := hI.g 104 rfl
    have e107 := hI.g 107 rfl
    have hw : w = W := hI.wp
    subst hw
    have z1 : (wl : Int) + 1 < (l2 : Int) := by omega
    go_simp
    exact hI.put (d := 108) (by decide) (by simp)
  · intro a w hI
    have hI : SR _ _ _ _ a w := hI
    have hw : w = W := hI.wp
    subst hw
    exact hQ a hI
set_option maxRecDepth 100000 in
set_option maxHeartbeats 4000000 in
theorem p26f (n : Nat) (W : World) (B r N i wB M nb qc j sB : Nat) (wl l2 : Nat) (h15 : wl ≤ 15) (hc : ¬ wl + 1 < l2) (cs1 : W.cell? ⟨sB, 1, none⟩ = some (.int .u8 l2)) (cw1 : W.cell? ⟨wB, 1, none⟩ = some (.int .u8 wl)) (Q : Exit → Act → World → Prop) (a : Act) (h0 : SR [(1, .pointer (some ⟨B, 0, none⟩)), (3, .slice (some ⟨r, 0, none⟩) N N), (5, .int .i64 i), (6, .pointer (some ⟨wB, 0, none⟩)), (8, .slice (some ⟨nb, 0, none⟩) M qc), (9, .int .i64 j), (10, .pointer (some ⟨sB, 0, none⟩))] 120 [] W a W)
    (hQ : ∀ a, SR [(1, .pointer (some ⟨B, 0, none⟩)), (3, .slice (some ⟨r, 0, none⟩) N N), (5, .int .i64 i), (6, .pointer (some ⟨wB, 0, none⟩)), (8, .slice (some ⟨nb, 0, none⟩) M qc), (9, .int .i64 j), (10, .pointer (some ⟨sB, 0, none⟩)), (108, .bool false)] 120 [] (W) a (W) → Q .normal a (W)) : (regOf 26 C4).wpIn Fence.wide n Try.prog Q a W := by
  simp only [regOf, C4, Try.f4, Option.getD, Nat.reduceBEq, Bool.false_eq_true, if_true, if_false]
  refine region_sq (fun k_ a w => match k_ with | 0 => SR [(1, .pointer (some ⟨B, 0, none⟩)), (3, .slice (some ⟨r, 0, none⟩) N N), (5, .int .i64 i), (6, .pointer (some ⟨wB, 0, none⟩)), (8, .slice (some ⟨nb, 0, none⟩) M qc), (9, .int .i64 j), (10, .pointer (some ⟨sB, 0, none⟩))] 120 [] (W) a w | 1 => SR [(1, .pointer (some ⟨B, 0, none⟩)), (3, .slice (some ⟨r, 0, none⟩) N N), (5, .int .i64 i), (6, .pointer (some ⟨wB, 0, none⟩)), (8, .slice (some ⟨nb, 0, none⟩) M qc), (9, .int .i64 j), (10, .pointer (some ⟨sB, 0, none⟩)), (103, .pointer (some ⟨sB, 1, none⟩))] 120 [] (W) a w | 2 => SR [(1, .pointer (some ⟨B, 0, none⟩)), (3, .slice (some ⟨r, 0, none⟩) N N), (5, .int .i64 i), (6, .pointer (some ⟨wB, 0, none⟩)), (8, .slice (some ⟨nb, 0, none⟩) M qc), (9, .int .i64 j), (10, .pointer (some ⟨sB, 0, none⟩)), (104, .int .u8 l2)] 120 [] (W) a w | 3 => SR [(1, .pointer (some ⟨B, 0, none⟩)), (3, .slice (some ⟨r, 0, none⟩) N N), (5, .int .i64 i), (6, .pointer (some ⟨wB, 0, none⟩)), (8, .slice (some ⟨nb, 0, none⟩) M qc), (9, .int .i64 j), (10, .pointer (some ⟨sB, 0, none⟩)), (104, .int .u8 l2), (105, .pointer (some ⟨wB, 1, none⟩))] 120 [] (W) a w | 4 => SR [(1, .pointer (some ⟨B, 0, none⟩)), (3, .slice (some ⟨r, 0, none⟩) N N), (5, .int .i64 i), (6, .pointer (some ⟨wB, 0, none⟩)), (8, .slice (some ⟨nb, 0, none⟩) M qc), (9, .int .i64 j), (10, .pointer (some ⟨sB, 0, none⟩)), (104, .int .u8 l2), (106, .int .u8 wl)] 120 [] (W) a w | 5 => SR [(1, .pointer (some ⟨B, 0, none⟩)), (3, .slice (some ⟨r, 0, none⟩) N N), (5, .int .i64 i), (6, .pointer (some ⟨wB, 0, none⟩)), (8, .slice (some ⟨nb, 0, none⟩) M qc), (9, .int .i64 j), (10, .pointer (some ⟨sB, 0, none⟩)), (104, .int .u8 l2), (107, .int .u8 ((wl : Int) + 1))] 120 [] (W) a w | _ => SR [(1, .pointer (some ⟨B, 0, none⟩)), (3, .slice (some ⟨r, 0, none⟩) N N), (5, .int .i64 i), (6, .pointer (some ⟨wB, 0, none⟩)), (8, .slice (some ⟨nb, 0, none⟩) M qc), (9, .int .i64 j), (10, .pointer (some ⟨sB, 0, none⟩)), (108, .bool false)] 120 [] (W) a w) (show SR _ _ _ _ a W from h0) ⟨?_, ?_, ?_, ?_, ?_, ?_, trivial⟩ ?_
  · intro a w hI
    have hI : SR _ _ _ _ a w := hI
    have e10 := hI.g 10 rfl
    have hw : w = W := hI.wp
    subst hw
    go_simp
    exact hI.put (d := 103) (by decide) (by simp)
  · intro a w hI
    have hI : SR _ _ _ _ a w := hI
    have e103 := hI.g 103 rfl
    have hw : w = W := hI.wp
    subst hw
    go_simp
    exact hI.put (d := 104) (by decide) (by simp)
  · intro a w hI
    have hI : SR _ _ _ _ a w := hI
    have e6 := hI.g 6 rfl
    have hw : w = W := hI.wp
    subst hw
    go_simp
    exact hI.put (d := 105) (by decide) (by simp)
  · intro a w hI
    have hI : SR _ _ _ _ a w := hI
    have e105 := hI.g 105 rfl
    have hw : w = W := hI.wp
    subst hw
    go_simp
    exact hI.put (d := 106) (by decide) (by simp)
  · intro a w hI
    have hI : SR _ _ _ _ a w := hI
    have e106 := hI.g 106 rfl
    have hw : w = W := hI.wp
    subst hw
    have hw : IntKind.u8.wrap ((wl : Int) + 1) = (wl : Int) + 1 := IntWalk.u8_in _ (by omega)
    go_simp
    exact hI.put (d := 107) (by decide) (by simp)
  · intro a w hI
    have hI : SR _ _ _ _ a w := hI
    have e104 := hI.g 104 rfl
    have e107 := hI.g 107 rfl
    have hw : w = W := hI.wp
    subst hw
    have z1 : ¬ (wl : Int) + 1 < (l2 : Int) := by omega
    go_simp
    exact hI.put (d := 108) (by decide) (by simp)
  · intro a w hI
    have hI : SR _ _ _ _ a w := hI
    have hw : w = W := hI.wp
    subst hw
    exact hQ a hI
set_option maxRecDepth 100000 in
set_option maxHeartbeats 4000000 in
theorem p25 (n : Nat) (W : World) (B r N i wB M nb qc j sB : Nat) (s2 m : Nat) (hm : IntKind.u8.wrap ((s2 : Int) - 1) = (m : Int)) {cv0 : Value} (cw : W.cell? ⟨wB, 0, none⟩ = some cv0) (fw : W.frozen? ⟨wB, 0, none⟩ = false)  (cs0 : W.cell? ⟨sB, 0, none⟩ = some (.int .u8 s2)) (Q : Exit → Act → World → Prop) (a : Act) (h0 : SR [(1, .pointer (some ⟨B, 0, none⟩)), (3, .slice (some ⟨r, 0, none⟩) N N), (5, .int .i64 i), (6, .pointer (some ⟨wB, 0, none⟩)), (8, .slice (some ⟨nb, 0, none⟩) M qc), (9, .int .i64 j), (10, .pointer (some ⟨sB, 0, none⟩))] 120 [] W a W)
    (hQ : ∀ a, SR [(1, .pointer (some ⟨B, 0, none⟩)), (3, .slice (some ⟨r, 0, none⟩) N N), (5, .int .i64 i), (6, .pointer (some ⟨wB, 0, none⟩)), (8, .slice (some ⟨nb, 0, none⟩) M qc), (9, .int .i64 j), (10, .pointer (some ⟨sB, 0, none⟩))] 120 [] (W.setCell ⟨wB, 0, none⟩ (.int .u8 m)) a (W.setCell ⟨wB, 0, none⟩ (.int .u8 m)) → Q .normal a (W.setCell ⟨wB, 0, none⟩ (.int .u8 m))) : (regOf 25 C4).wpIn Fence.wide n Try.prog Q a W := by
  simp only [regOf, C4, Try.f4, Option.getD, Nat.reduceBEq, Bool.false_eq_true, if_true, if_false]
  refine region_sq (fun k_ a w => match k_ with | 0 => SR [(1, .pointer (some ⟨B, 0, none⟩)), (3, .slice (some ⟨r, 0, none⟩) N N), (5, .int .i64 i), (6, .pointer (some ⟨wB, 0, none⟩)), (8, .slice (some ⟨nb, 0, none⟩) M qc), (9, .int .i64 j), (10, .pointer (some ⟨sB, 0, none⟩))] 120 [] (W) a w | 1 => SR [(1, .pointer (some ⟨B, 0, none⟩)), (3, .slice (some ⟨r, 0, none⟩) N N), (5, .int .i64 i), (6, .pointer (some ⟨wB, 0, none⟩)), (8, .slice (some ⟨nb, 0, none⟩) M qc), (9, .int .i64 j), (10, .pointer (some ⟨sB, 0, none⟩)), (99, .pointer (some ⟨sB, 0, none⟩))] 120 [] (W) a w | 2 => SR [(1, .pointer (some ⟨B, 0, none⟩)), (3, .slice (some ⟨r, 0, none⟩) N N), (5, .int .i64 i), (6, .pointer (some ⟨wB, 0, none⟩)), (8, .slice (some ⟨nb, 0, none⟩) M qc), (9, .int .i64 j), (10, .pointer (some ⟨sB, 0, none⟩)), (100, .int .u8 s2)] 120 [] (W) a w | 3 => SR [(1, .pointer (some ⟨B, 0, none⟩)), (3, .slice (some ⟨r, 0, none⟩) N N), (5, .int .i64 i), (6, .pointer (some ⟨wB, 0, none⟩)), (8, .slice (some ⟨nb, 0, none⟩) M qc), (9, .int .i64 j), (10, .pointer (some ⟨sB, 0, none⟩)), (101, .int .u8 m)] 120 [] (W) a w | 4 => SR [(1, .pointer (some ⟨B, 0, none⟩)), (3, .slice (some ⟨r, 0, none⟩) N N), (5, .int .i64 i), (6, .pointer (some ⟨wB, 0, none⟩)), (8, .slice (some ⟨nb, 0, none⟩) M qc), (9, .int .i64 j), (10, .pointer (some ⟨sB, 0, none⟩)), (101, .int .u8 m), (102, .pointer (some ⟨wB, 0, none⟩))] 120 [] (W) a w | _ => SR [(1, .pointer (some ⟨B, 0, none⟩)), (3, .slice (some ⟨r, 0, none⟩) N N), (5, .int .i64 i), (6, .pointer (some ⟨wB, 0, none⟩)), (8, .slice (some ⟨nb, 0, none⟩) M qc), (9, .int .i64 j), (10, .pointer (some ⟨sB, 0, none⟩))] 120 [] (W.setCell ⟨wB, 0, none⟩ (.int .u8 m)) a w) (show SR _ _ _ _ a W from h0) ⟨?_, ?_, ?_, ?_, ?_, trivial⟩ ?_
  · intro a w hI
    have hI : SR _ _ _ _ a w := hI
    have e10 := hI.g 10 rfl
    have hw : w = W := hI.wp
    subst hw
    go_simp
    exact hI.put (d := 99) (by decide) (by simp)
  · intro a w hI
    have hI : SR _ _ _ _ a w := hI
    have e99 := hI.g 99 rfl
    have hw : w = W := hI.wp
    subst hw
    go_simp
    exact hI.put (d := 100) (by decide) (by simp)
  · intro a w hI
    have hI : SR _ _ _ _ a w := hI
    have e100 := hI.g 100 rfl
    have hw : w = W := hI.wp
    subst hw
    go_simp
    exact hI.put (d := 101) (by decide) (by simp)
  · intro a w hI
    have hI : SR _ _ _ _ a w := hI
    have e6 := hI.g 6 rfl
    have hw : w = W := hI.wp
    subst hw
    go_simp
    exact hI.put (d := 102) (by decide) (by simp)
  · intro a w hI
    have hI : SR _ _ _ _ a w := hI
    have e102 := hI.g 102 rfl
    have e101 := hI.g 101 rfl
    have hw : w = W := hI.wp
    subst hw
    go_simp
    exact hI.none.sub (by intro p hp; simp only [List.mem_cons, List.not_mem_nil, or_false] at hp ⊢; rcases hp with h | h | h | h | h | h | h <;> simp [h])
  · intro a w hI
    have hI : SR _ _ _ _ a w := hI
    obtain rfl := hI.wp
    exact hQ a hI
set_option maxRecDepth 100000 in
set_option maxHeartbeats 4000000 in
theorem p27 (n : Nat) (W : World) (B r N i wB M nb qc j sB : Nat) (l2 m : Nat) (hm : IntKind.u8.wrap ((l2 : Int) - 1) = (m : Int)) {cv0 : Value} (cw : W.cell? ⟨wB, 1, none⟩ = some cv0) (fw : W.frozen? ⟨wB, 1, none⟩ = false)  (cs1 : W.cell? ⟨sB, 1, none⟩ = some (.int .u8 l2)) (Q : Exit → Act → World → Prop) (a : Act) (h0 : SR [(1, .pointer (some ⟨B, 0, none⟩)), (3, .slice (some ⟨r, 0, none⟩) N N), (5, .int .i64 i), (6, .pointer (some ⟨wB, 0, none⟩)), (8, .slice (some ⟨nb, 0, none⟩) M qc), (9, .int .i64 j), (10, .pointer (some ⟨sB, 0, none⟩))] 120 [] W a W)
    (hQ : ∀ a, SR [(1, .pointer (some ⟨B, 0, none⟩)), (3, .slice (some ⟨r, 0, none⟩) N N), (5, .int .i64 i), (6, .pointer (some ⟨wB, 0, none⟩)), (8, .slice (some ⟨nb, 0, none⟩) M qc), (9, .int .i64 j), (10, .pointer (some ⟨sB, 0, none⟩))] 120 [] (W.setCell ⟨wB, 1, none⟩ (.int .u8 m)) a (W.setCell ⟨wB, 1, none⟩ (.int .u8 m)) → Q .normal a (W.setCell ⟨wB, 1, none⟩ (.int .u8 m))) : (regOf 27 C4).wpIn Fence.wide n Try.prog Q a W := by
  simp only [regOf, C4, Try.f4, Option.getD, Nat.reduceBEq, Bool.false_eq_true, if_true, if_false]
  refine region_sq (fun k_ a w => match k_ with | 0 => SR [(1, .pointer (some ⟨B, 0, none⟩)), (3, .slice (some ⟨r, 0, none⟩) N N), (5, .int .i64 i), (6, .pointer (some ⟨wB, 0, none⟩)), (8, .slice (some ⟨nb, 0, none⟩) M qc), (9, .int .i64 j), (10, .pointer (some ⟨sB, 0, none⟩))] 120 [] (W) a w | 1 => SR [(1, .pointer (some ⟨B, 0, none⟩)), (3, .slice (some ⟨r, 0, none⟩) N N), (5, .int .i64 i), (6, .pointer (some ⟨wB, 0, none⟩)), (8, .slice (some ⟨nb, 0, none⟩) M qc), (9, .int .i64 j), (10, .pointer (some ⟨sB, 0, none⟩)), (109, .pointer (some ⟨sB, 1, none⟩))] 120 [] (W) a w | 2 => SR [(1, .pointer (some ⟨B, 0, none⟩)), (3, .slice (some ⟨r, 0, none⟩) N N), (5, .int .i64 i), (6, .pointer (some ⟨wB, 0, none⟩)), (8, .slice (some ⟨nb, 0, none⟩) M qc), (9, .int .i64 j), (10, .pointer (some ⟨sB, 0, none⟩)), (110, .int .u8 l2)] 120 [] (W) a w | 3 => SR [(1, .pointer (some ⟨B, 0, none⟩)), (3, .slice (some ⟨r, 0, none⟩) N N), (5, .int .i64 i), (6, .pointer (some ⟨wB, 0, none⟩)), (8, .slice (some ⟨nb, 0, none⟩) M qc), (9, .int .i64 j), (10, .pointer (some ⟨sB, 0, none⟩)), (111, .int .u8 m)] 120 [] (W) a w | 4 => SR [(1, .pointer (some ⟨B, 0, none⟩)), (3, .slice (some ⟨r, 0, none⟩) N N), (5, .int .i64 i), (6, .pointer (some ⟨wB, 0, none⟩)), (8, .slice (some ⟨nb, 0, none⟩) M qc), (9, .int .i64 j), (10, .pointer (some ⟨sB, 0, none⟩)), (111, .int .u8 m), (112, .pointer (some ⟨wB, 1, none⟩))] 120 [] (W) a w | _ => SR [(1, .pointer (some ⟨B, 0, none⟩)), (3, .slice (some ⟨r, 0, none⟩) N N), (5, .int .i64 i), (6, .pointer (some ⟨wB, 0, none⟩)), (8, .slice (some ⟨nb, 0, none⟩) M qc), (9, .int .i64 j), (10, .pointer (some ⟨sB, 0, none⟩))] 120 [] (W.setCell ⟨wB, 1, none⟩ (.int .u8 m)) a w) (show SR _ _ _ _ a W from h0) ⟨?_, ?_, ?_, ?_, ?_, trivial⟩ ?_
  · intro a w hI
    have hI : SR _ _ _ _ a w := hI
    have e10 := hI.g 10 rfl
    have hw : w = W := hI.wp
    subst hw
    go_simp
    exact hI.put (d := 109) (by decide) (by simp)
  · intro a w hI
    have hI : SR _ _ _ _ a w := hI
    have e109 := hI.g 109 rfl
    have hw : w = W := hI.wp
    subst hw
    go_simp
    exact hI.put (d := 110) (by decide) (by simp)
  · intro a w hI
    have hI : SR _ _ _ _ a w := hI
    have e110 := hI.g 110 rfl
    have hw : w = W := hI.wp
    subst hw
    go_simp
    exact hI.put (d := 111) (by decide) (by simp)
  · intro a w hI
    have hI : SR _ _ _ _ a w := hI
    have e6 := hI.g 6 rfl
    have hw : w = W := hI.wp
    subst hw
    go_simp
    exact hI.put (d := 112) (by decide) (by simp)
  · intro a w hI
    have hI : SR _ _ _ _ a w := hI
    have e112 := hI.g 112 rfl
    have e111 := hI.g 111 rfl
    have hw : w = W := hI.wp
    subst hw
    go_simp
    exact hI.none.sub (by intro p hp; simp only [List.mem_cons, List.not_mem_nil, or_false] at hp ⊢; rcases hp with h | h | h | h | h | h | h <;> simp [h])
  · intro a w hI
    have hI : SR _ _ _ _ a w := hI
    obtain rfl := hI.wp
    exact hQ a hI
set_option maxRecDepth 100000 in
set_option maxHeartbeats 4000000 in
theorem p28 (n : Nat) {G : World → Prop} (hS : Stable G) (B r N i wB s l : Nat) (hi : i < N) (li0 : ∀ w, G w → w.cell? ⟨r, i * 2, none⟩ = some (.int .u8 s)) (li1 : ∀ w, G w → w.cell? ⟨r, i * 2 + 1, none⟩ = some (.int .u8 l)) (cw0 : ∀ w, G w → w.cell? ⟨wB, 0, none⟩ = some (.int .u8 s)) (cw1 : ∀ w, G w → w.cell? ⟨wB, 1, none⟩ = some (.int .u8 l)) (Q : Exit → Act → World → Prop) (a : Act) (w : World) (h0 : SG [(1, .pointer (some ⟨B, 0, none⟩)), (3, .slice (some ⟨r, 0, none⟩) N N), (5, .int .i64 i), (6, .pointer (some ⟨wB, 0, none⟩))] 120 G a w)
    (hQ : ∀ a w, SG [(1, .pointer (some ⟨B, 0, none⟩)), (3, .slice (some ⟨r, 0, none⟩) N N), (5, .int .i64 i), (118, .bool false)] 120 G a w → Q .normal a w) : (regOf 28 C4).wpIn Fence.wide n Try.prog Q a w := by
  have hmix : Try.prog.follows .mixedOrders = true := by kernel_rfl
  simp only [regOf, C4, Try.f4, Option.getD, Nat.reduceBEq, Bool.false_eq_true, if_true, if_false]
  refine region_inv (RI [(1, .pointer (some ⟨B, 0, none⟩)), (3, .slice (some ⟨r, 0, none⟩) N N), (5, .int .i64 i), (6, .pointer (some ⟨wB, 0, none⟩))]
    [(0, 113, .slice (some ⟨r, 0, none⟩) N N), (1, 114, .int .i64 i), (2, 115, .pointer (some ⟨r, i * 2, none⟩)), (3, 116, .agg #[.int .u8 s, .int .u8 l]), (4, 117, .agg #[.int .u8 s, .int .u8 l]), (5, 118, .bool false)] 120 [] (fun _ w => G w)) hmix (by kernel_rfl) ⟨h0.size, h0.defers, h0.kn, by simp, hS _ _ h0.wp (Below.refl _ _).drew⟩ ⟨?_, ?_, ?_, ?_, ?_, ?_, trivial⟩ ?_
  · intro Xs a w hX hdep hC hI
    have e3 := hI.gi 3 rfl
    go_simp
    exact hI.put' (k := 0) (d := 113) (by decide) (by simp) (by simp) (by simp) hI.wp
  · intro Xs a w hX hdep hC hI
    have e5 := hI.gi 5 rfl
    go_simp
    exact hI.put' (k := 1) (d := 114) (by decide) (by simp) (by simp) (by simp) hI.wp
  · intro Xs a w hX hdep hC hI
    have x0 : Xs 0 = true := hdep ⟨0, .data⟩ (by simp) rfl
    have e113 := hI.gk 0 rfl x0
    have x1 : Xs 1 = true := hdep ⟨1, .data⟩ (by simp) rfl
    have e114 := hI.gk 1 rfl x1
    have q1_2 : (0 : Int) ≤ i := by omega
    have q2_2 : (i : Int) < N := by omega
    go_simp
    exact hI.put' (k := 2) (d := 115) (by decide) (by simp) (by simp) (by simp) hI.wp
  · intro Xs a w hX hdep hC hI
    have x2 : Xs 2 = true := hdep ⟨2, .data⟩ (by simp) rfl
    have e115 := hI.gk 2 rfl x2
    have cc0 := li0 w hI.wp
    have cc1 := li1 w hI.wp
    go_simp
    exact hI.put' (k := 3) (d := 116) (by decide) (by simp) (by simp) (by simp) hI.wp
  · intro Xs a w hX hdep hC hI
    have e6 := hI.gi 6 rfl
    have cc0 := cw0 w hI.wp
    have cc1 := cw1 w hI.wp
    go_simp
    exact hI.put' (k := 4) (d := 117) (by decide) (by simp) (by simp) (by simp) hI.wp
  · intro Xs a w hX hdep hC hI
    have x3 : Xs 3 = true := hdep ⟨3, .data⟩ (by simp) rfl
    have e116 := hI.gk 3 rfl x3
    have x4 : Xs 4 = true := hdep ⟨4, .data⟩ (by simp) rfl
    have e117 := hI.gk 4 rfl x4
    go_simp
    exact hI.put' (k := 5) (d := 118) (by decide) (by simp) (by simp) (by simp) hI.wp
  · intro Xs a w hX hI
    refine hQ a w ⟨hI.size, hI.defers, ?_, hI.wp⟩
    simp only [List.mem_cons, List.not_mem_nil, or_false, forall_eq_or_imp, forall_eq]
    exact ⟨hI.gi 1 rfl, hI.gi 3 rfl, hI.gi 5 rfl, hI.gk 5 rfl (hX 5 (by simp))⟩
set_option maxRecDepth 100000 in
set_option maxHeartbeats 4000000 in
theorem p30 (n : Nat) {G : World → Prop} (hS : Stable G)  (hw : ∀ m w, G w → CallsIn Fence.wide m Try.prog 13 #[] w fun e w' => e = .returned (.bool true) ∧ Below w.heap.size w w') (Q : Exit → Act → World → Prop) (a : Act) (w : World) (h0 : SG [] 120 G a w)
    (hQ : ∀ a w, SG [(2, .bool true)] 120 G a w → Q .normal a w) : (regOf 30 C4).wpIn Fence.wide n Try.prog Q a w := by
  simp only [regOf, C4, Try.f4, Option.getD, Nat.reduceBEq, Bool.false_eq_true, if_true, if_false]
  refine region_sq (fun k_ a w => match k_ with | 0 => SG [] 120 G a w | 1 => SG [(119, .bool true)] 120 G a w | _ => SG [(2, .bool true)] 120 G a w) (show SG _ _ G a w from h0) ⟨?_, ?_, trivial⟩ ?_
  · intro a w hI
    have hI : SG _ _ G a w := hI
    go_simp
    refine ⟨trivial, fun h => (by cases h), (hw (n - 1) w hI.wp).mono ?_⟩
    rintro e w' ⟨rfl, hb2⟩
    exact hI.put (d := 119) (by decide) (by simp) (hS _ _ hI.wp hb2)
  · intro a w hI
    have hI : SG _ _ G a w := hI
    have e119 := hI.g 119 rfl
    go_simp
    exact hI.put (d := 2) (by decide) (by simp) hI.wp
  · intro a w hI
    have hI : SG _ _ G a w := hI
    exact hQ a w hI
/-! ### GlowSteps -/
noncomputable def Up4 : Code := .seq (.seq (regOf 15 C4) (.cond (.tmp 63) .skip (.exit 2))) (.block 3 (regOf 16 C4))
noncomputable def Rd4 : Code := .seq (regOf 23 C4) (.seq (.seq (regOf 24 C4) (.cond (.tmp 98) (regOf 25 C4) .skip)) (.seq (regOf 26 C4) (.cond (.tmp 108) (regOf 27 C4) .skip)))
noncomputable def Lp4i : Code := .seq (.seq (regOf 21 C4) (.cond (.tmp 83) .skip (.exit 4))) (.seq (.block 5 Rd4) (regOf 22 C4))
noncomputable def In4 : Code := .seq (regOf 13 C4) (.seq (regOf 14 C4) (.seq (.block 2 (.loop Up4)) (.seq (.seq (regOf 17 C4) (.cond (.tmp 75) (regOf 18 C4) .skip)) (.seq (regOf 19 C4) (.seq (regOf 20 C4) (.block 4 (.loop Lp4i)))))))
noncomputable def Bd4 : Code := .seq (regOf 11 C4) (.seq (.seq (regOf 12 C4) (.cond (.tmp 42) In4 .skip)) (.seq (regOf 28 C4) (.cond (.tmp 118) (.seq (regOf 29 C4) .ret) .skip)))
noncomputable def Lp4 : Code := .seq (.seq (regOf 9 C4) (.cond (.tmp 33) .skip (.exit 0))) (.seq (.block 1 Bd4) (regOf 10 C4))
theorem C4_eq : C4 = .seq (regOf 0 C4) (.seq (.seq (regOf 1 C4) (.cond (.tmp 14) (.seq (regOf 2 C4) .ret) .skip)) (.seq (regOf 3 C4) (.seq (.seq (regOf 4 C4) (.cond (.tmp 22) (.seq (regOf 5 C4) .ret) .skip)) (.seq (.seq (regOf 6 C4) (.cond (.tmp 29) (.seq (regOf 7 C4) .ret) .skip)) (.seq (.seq (regOf 8 C4) (.block 0 (.loop Lp4))) (.seq (regOf 30 C4) .ret)))))) := by kernel_rfl
section
variable {W0 : World} {X Y Z N g off cap r B wB : Nat} {A : Nat → Int}
abbrev wO (s l : Nat) : Obj := .cells #[.int .u8 s, .int .u8 l] 37 (0, 0)
abbrev A6s (B r N i wB : Nat) : List (Nat × Value) := [(1, .pointer (some ⟨B, 0, none⟩)), (3, .slice (some ⟨r, 0, none⟩) N N), (5, .int .i64 i), (6, .pointer (some ⟨wB, 0, none⟩))]
abbrev A7s (B r N i wB u : Nat) : List (Nat × Value) := [(1, .pointer (some ⟨B, 0, none⟩)), (3, .slice (some ⟨r, 0, none⟩) N N), (5, .int .i64 i), (6, .pointer (some ⟨wB, 0, none⟩)), (7, .int .i64 u)]
abbrev A9s (B r N i wB : Nat) (q : Value) (j : Nat) : List (Nat × Value) := [(1, .pointer (some ⟨B, 0, none⟩)), (3, .slice (some ⟨r, 0, none⟩) N N), (5, .int .i64 i), (6, .pointer (some ⟨wB, 0, none⟩)), (8, q), (9, .int .i64 j)]
theorem sub5 {p : Nat × Obj} : ∀ q ∈ bs5 X Y Z N g off cap r B A, q ∈ p :: bs5 X Y Z N g off cap r B A := fun _ h => List.mem_cons_of_mem _ h
theorem sub5' {p p' : Nat × Obj} : ∀ q ∈ bs5 X Y Z N g off cap r B A, q ∈ p :: p' :: bs5 X Y Z N g off cap r B A := fun _ h => List.mem_cons_of_mem _ (List.mem_cons_of_mem _ h)
theorem wcell {bs : List (Nat × Obj)} {w : World} {b s l k : Nat} {v : Value} (hh : Has W0 bs w) (hm : (b, wO s l) ∈ bs) (hv : (#[.int .u8 s, .int .u8 l] : Array Value)[k]? = some v) : w.cell? ⟨b, k, none⟩ = some v := hh.cell hm hv
theorem wfroz {bs : List (Nat × Obj)} {w : World} {b s l : Nat} (hh : Has W0 bs w) (hm : (b, wO s l) ∈ bs) (k : Nat) : w.frozen? ⟨b, k, none⟩ = false := hh.unfrozen hm k
set_option maxHeartbeats 1000000 in
theorem up_loop (n : Nat) (h : Arg W0 X Y Z N g off A) {i s l : Nat} (hi : i < N) (a : Act) (w : World) (ha : SG (A7s B r N i wB i) 120 (Has W0 ((wB, wO s l) :: bs5 X Y Z N g off cap r B A)) a w) (Q : Exit → Act → World → Prop)
    (hQ : ∀ u a w, u < 9000000000 → (N ≤ u ↔ ∀ m, i + m * (X * Z) < N → clA A (i + m * (X * Z)) = true) → SG (A7s B r N i wB u) 120 (Has W0 ((wB, wO s l) :: bs5 X Y Z N g off cap r B A)) a w → Q .normal a w) : (Code.block 2 (.loop Up4)).wpIn Fence.wide n Try.prog Q a w := by
  have hN := h.le
  have hXZ : X * Z ≤ 65536 := Nat.mul_le_mul h.x.2 h.z.2
  have hXZ0 : 1 ≤ X * Z := Nat.mul_le_mul h.x.1 h.z.1
  have hcXZ : ((X * Z : Nat) : Int) = (X : Int) * Z := Int.natCast_mul _ _
  have hm : IntKind.i64.wrap ((X : Int) * Z) = (X : Int) * Z := IntWalk.i64_in _ (by rw [← hcXZ]; omega)
  refine wpIn_block (wpIn_loop (fun a w => ∃ m, i + m * (X * Z) < N + X * Z ∧ (∀ m', m' < m → i + m' * (X * Z) < N ∧ clA A (i + m' * (X * Z)) = true) ∧ SG (A7s B r N i wB (i + m * (X * Z))) 120 (Has W0 ((wB, wO s l) :: bs5 X Y Z N g off cap r B A)) a w)
    (fun a _ => N + X * Z - slotN 7 a) ⟨0, by omega, fun m' h => absurd h (Nat.not_lt_zero _), by rw [Nat.zero_mul, Nat.add_zero]; exact ha⟩ ?_)
  rintro a w ⟨m, hlt, hinv, ha⟩
  have e7 := ha.slot (t := 7) (v := i + m * (X * Z)) (k := .i64) (by simp)
  have mono : ∀ m', m' * (X * Z) < m * (X * Z) → m' < m := fun m' h => Nat.lt_of_mul_lt_mul_right h
  obtain ⟨u, hu⟩ : ∃ u, u = i + m * (X * Z) := ⟨_, rfl⟩
  rw [← hu] at ha e7 hlt
  have hS := Has.stable W0 ((wB, wO s l) :: bs5 X Y Z N g off cap r B A)
  unfold Up4
  refine wpIn_seq (wpIn_seq ?_)
  by_cases hun : u < N
  · have ho := fun (m : Nat) (w' : World) (_ : Has W0 ((wB, wO s l) :: bs5 X Y Z N g off cap r B A) w') => h.row.open_ hun m w'
    cases ec : clA A u with
    | true =>
      rw [ec] at ho
      refine p15t n hS B r N i wB u g off cap (kd A u) (lv A u) hun (fun w h' => boxs5 sub5 h' rfl) (fun w h' => h'.old h.row.lt (h.row.kind hun)) (fun w h' => h'.old h.row.lt (h.row.level hun)) ho _ a w ha ?_
      intro a1 w1 h1
      refine wpIn_cond (t := true) (by rw [eval_tmp]; exact h1.kn (63, .bool true) (by simp)) (wpIn_skip (wpIn_block ?_))
      have hG := h1.wp
      refine p16 n w1 B r N i wB u X Z (u + X * Z) hm (by rw [← hcXZ]; rw [IntWalk.i64_in _ (by omega)]; omega) (boxs5 sub5 hG rfl) (boxs5 sub5 hG rfl) _ a1 (h1.sr.sub (by simp)) ?_
      intro a2 h2
      have h2 : SG (A7s B r N i wB (u + X * Z)) 120 (Has W0 ((wB, wO s l) :: bs5 X Y Z N g off cap r B A)) a2 w1 := h2.sg hG
      have eu : u + X * Z = i + (m + 1) * (X * Z) := by rw [hu, Nat.add_mul, Nat.one_mul]; omega
      refine ⟨⟨m + 1, by rw [← eu]; omega, fun m' h' => ?_, by rw [← eu]; exact h2⟩, by rw [e7, h2.slot (t := 7) (v := u + X * Z) (k := .i64) (by simp)]; omega⟩
      by_cases e : m' = m
      · subst e; rw [← hu]; exact ⟨hun, ec⟩
      · exact hinv m' (by omega)
    | false =>
      rw [ec] at ho
      refine p15f n hS B r N i wB u g off cap (kd A u) (lv A u) hun (fun w h' => boxs5 sub5 h' rfl) (fun w h' => h'.old h.row.lt (h.row.kind hun)) (fun w h' => h'.old h.row.lt (h.row.level hun)) ho _ a w ha ?_
      intro a1 w1 h1
      refine wpIn_cond (t := false) (by rw [eval_tmp]; exact h1.kn (63, .bool false) (by simp)) (wpIn_exit ?_)
      refine hQ u a1 w1 (by omega) ⟨fun h' => by omega, fun h' => ?_⟩ (h1.sub (by simp))
      have := h' m (by omega)
      rw [← hu, ec] at this; cases this
  · refine p15n n hS B r N i wB u g off cap 0 0 hun (fun w h' => boxs5 sub5 h' rfl) _ a w ha ?_
    intro a1 w1 h1
    refine wpIn_cond (t := false) (by rw [eval_tmp]; exact h1.kn (63, .bool false) (by simp)) (wpIn_exit ?_)
    refine hQ u a1 w1 (by omega) ⟨fun _ m' h' => (hinv m' (mono m' (by omega))).2, fun _ => by omega⟩ (h1.sub (by simp))
theorem wset0 {s t : Nat} {bs : List (Nat × Obj)} {w : World} (hh : Has W0 ((wB, wO s t) :: bs) w) (s' : Nat) : Has W0 ((wB, wO s' t) :: bs) (w.setCell ⟨wB, 0, none⟩ (.int .u8 s')) := by
  have := hh.set (m := 0) (.int .u8 s'); simpa using this
theorem wset1 {s t : Nat} {bs : List (Nat × Obj)} {w : World} (hh : Has W0 ((wB, wO s t) :: bs) w) (t' : Nat) : Has W0 ((wB, wO s t') :: bs) (w.setCell ⟨wB, 1, none⟩ (.int .u8 t')) := by
  have := hh.set (m := 1) (.int .u8 t'); simpa using this
/-- What holds in the inner loop. -/
abbrev GS (W0 : World) (X Y Z N g off cap r B wB : Nat) (A : Nat → Int) (b : Nat) (q : Value) (l : List Nat) (s t : Nat) : World → Prop := fun w => Has W0 ((wB, wO s t) :: bs5 X Y Z N g off cap r B A) w ∧ w.ownsRow b 3 1 q l.length (intsV l)
theorem GS.set0 {b s t s' : Nat} {q : Value} {l : List Nat} {bs : List (Nat × Obj)} {w : World} (hh : Has W0 ((wB, wO s t) :: bs) w) (ho : w.ownsRow b 3 1 q l.length (intsV l)) (hb : wB < b) : Has W0 ((wB, wO s' t) :: bs) (w.setCell ⟨wB, 0, none⟩ (.int .u8 s')) ∧ (w.setCell ⟨wB, 0, none⟩ (.int .u8 s')).ownsRow b 3 1 q l.length (intsV l) :=
  ⟨by have := hh.set (m := 0) (.int .u8 s'); simpa using this, ownsRow_setCell_below ho (a := ⟨wB, 0, none⟩) hb _⟩
theorem GS.set1 {b s t t' : Nat} {q : Value} {l : List Nat} {bs : List (Nat × Obj)} {w : World} (hh : Has W0 ((wB, wO s t) :: bs) w) (ho : w.ownsRow b 3 1 q l.length (intsV l)) (hb : wB < b) : Has W0 ((wB, wO s t') :: bs) (w.setCell ⟨wB, 1, none⟩ (.int .u8 t')) ∧ (w.setCell ⟨wB, 1, none⟩ (.int .u8 t')).ownsRow b 3 1 q l.length (intsV l) :=
  ⟨by have := hh.set (m := 1) (.int .u8 t'); simpa using this, ownsRow_setCell_below ho (a := ⟨wB, 1, none⟩) hb _⟩
set_option maxHeartbeats 1000000 in
theorem steps_round (n : Nat) (h : Arg W0 X Y Z N g off A) {i b j t nb qc s2 l2 : Nat} {l : List Nat} (ht : l[j]? = some t) (htN : t < N) (hs2 : s2 ≤ 15) (hl2 : l2 ≤ 15) (hb : wB < b) (a : Act) (w : World) (Q : Exit → Act → World → Prop)
    (ha : SG (A9s B r N i wB (.slice (some ⟨nb, 0, none⟩) l.length qc) j) 120 (GS W0 X Y Z N g off cap r B wB A b (.slice (some ⟨nb, 0, none⟩) l.length qc) l s2 l2) a w)
    (hQ : ∀ a w, SG (A9s B r N i wB (.slice (some ⟨nb, 0, none⟩) l.length qc) j) 120 (GS W0 X Y Z N g off cap r B wB A b (.slice (some ⟨nb, 0, none⟩) l.length qc) l (max s2 ((skyL X Y Z (clA A)).getD t 0 - 1)) (max l2 ((lampL X Y Z (clA A) (lmA A)).getD t 0 - 1))) a w → Q .normal a w) : Rd4.wpIn Fence.wide n Try.prog Q a w := by
  obtain ⟨s15, sfx⟩ := sky_fix (cl := clA A) h.n.symm
  obtain ⟨l15, lfx⟩ := lamp_fix (cl := clA A) h.n.symm (lmA_le A)
  have S15 := s15 t
  have L15 := l15 t
  have hG := ha.wp
  have hlt : j < l.length := (List.getElem?_eq_some_iff.1 ht).1
  unfold Rd4
  refine wpIn_seq ?_
  refine p23 n w B r N i wB l.length nb qc j t _ _ hlt htN (ownsRow_cell hG.2 ht) (lights5 sub5 hG.1 (pair_sky _ _ htN)) (lights5 sub5 hG.1 (pair_lamp _ _ htN)) _ a ha.sr ?_
  generalize (skyL X Y Z (clA A)).getD t 0 = S at S15 hQ ⊢
  generalize (lampL X Y Z (clA A) (lmA A)).getD t 0 = La at L15 hQ ⊢
  intro a2 h2
  have hA := (hG.1.alloc (wO S La)).swap
  have hO := ownsRow_below hG.2 ((Below.refl w.heap.size w).alloc (Nat.le_refl _) (wO S La))
  generalize w.heap.size = sB at hA h2
  generalize w.alloc (wO S La) = w2 at hA hO h2 ⊢
  have cs : ∀ {w' x y k v}, Has W0 ((wB, wO x y) :: (sB, wO S La) :: bs5 X Y Z N g off cap r B A) w' → (#[.int .u8 S, .int .u8 La] : Array Value)[k]? = some v → w'.cell? ⟨sB, k, none⟩ = some v := fun hh hv => wcell hh (by simp) hv
  have cw : ∀ {w' x y k v}, Has W0 ((wB, wO x y) :: (sB, wO S La) :: bs5 X Y Z N g off cap r B A) w' → (#[.int .u8 x, .int .u8 y] : Array Value)[k]? = some v → w'.cell? ⟨wB, k, none⟩ = some v := fun hh hv => wcell hh (by simp) hv
  have part2 : ∀ a3 w3, SG [(1, .pointer (some ⟨B, 0, none⟩)), (3, .slice (some ⟨r, 0, none⟩) N N), (5, .int .i64 i), (6, .pointer (some ⟨wB, 0, none⟩)), (8, .slice (some ⟨nb, 0, none⟩) l.length qc), (9, .int .i64 j), (10, .pointer (some ⟨sB, 0, none⟩))] 120 (fun w => Has W0 ((wB, wO (max s2 (S - 1)) l2) :: (sB, wO S La) :: bs5 X Y Z N g off cap r B A) w ∧ w.ownsRow b 3 1 (.slice (some ⟨nb, 0, none⟩) l.length qc) l.length (intsV l)) a3 w3 →
      (Code.seq (regOf 26 C4) (.cond (.tmp 108) (regOf 27 C4) .skip)).wpIn Fence.wide n Try.prog Q a3 w3 := by
    intro a3 w3 h3
    have hG3 := h3.wp
    refine wpIn_seq ?_
    by_cases c : l2 + 1 < La
    · refine p26t n w3 B r N i wB l.length nb qc j sB l2 La hl2 c (cs hG3.1 rfl) (cw hG3.1 rfl) _ a3 h3.sr ?_
      intro a4 h4
      refine wpIn_cond (t := true) (by rw [eval_tmp]; exact h4.kn (108, .bool true) (by simp)) ?_
      refine p27 n w3 B r N i wB l.length nb qc j sB La (La - 1) (by rw [IntWalk.u8_in _ (by omega)]; omega) (cw hG3.1 (k := 1) rfl) (wfroz hG3.1 (s := max s2 (S - 1)) (l := l2) (by simp) 1) (cs hG3.1 rfl) _ a4 (h4.sub (by simp)) ?_
      intro a5 h5
      obtain ⟨k1, k2⟩ := GS.set1 (t' := La - 1) hG3.1 hG3.2 hb
      refine hQ a5 _ ⟨h5.size, h5.defers, (h5.sub (by simp)).kn, ?_, k2⟩
      rw [show max l2 (La - 1) = La - 1 from Nat.max_eq_right (by omega)]
      exact k1.swap.tail
    · refine p26f n w3 B r N i wB l.length nb qc j sB l2 La hl2 c (cs hG3.1 rfl) (cw hG3.1 rfl) _ a3 h3.sr ?_
      intro a4 h4
      refine wpIn_cond (t := false) (by rw [eval_tmp]; exact h4.kn (108, .bool false) (by simp)) (wpIn_skip ?_)
      refine hQ a4 _ ⟨h4.size, h4.defers, (h4.sub (by simp)).kn, ?_, hG3.2⟩
      rw [show max l2 (La - 1) = l2 from Nat.max_eq_left (by omega)]
      exact hG3.1.swap.tail
  refine wpIn_seq (wpIn_seq ?_)
  by_cases c : s2 + 1 < S
  · refine p24t n w2 B r N i wB l.length nb qc j sB s2 S hs2 c (cs hA rfl) (cw hA rfl) _ a2 h2 ?_
    intro a4 h4
    refine wpIn_cond (t := true) (by rw [eval_tmp]; exact h4.kn (98, .bool true) (by simp)) ?_
    refine p25 n w2 B r N i wB l.length nb qc j sB S (S - 1) (by rw [IntWalk.u8_in _ (by omega)]; omega) (cw hA (k := 0) rfl) (wfroz hA (s := s2) (l := l2) (by simp) 0) (cs hA rfl) _ a4 (h4.sub (by simp)) ?_
    intro a5 h5
    obtain ⟨k1, k2⟩ := GS.set0 (s' := S - 1) hA hO hb
    rw [show max s2 (S - 1) = S - 1 from Nat.max_eq_right (by omega)] at part2
    exact part2 a5 _ (h5.sg ⟨k1, k2⟩)
  · refine p24f n w2 B r N i wB l.length nb qc j sB s2 S hs2 c (cs hA rfl) (cw hA rfl) _ a2 h2 ?_
    intro a4 h4
    refine wpIn_cond (t := false) (by rw [eval_tmp]; exact h4.kn (98, .bool false) (by simp)) (wpIn_skip ?_)
    rw [show max s2 (S - 1) = s2 from Nat.max_eq_left (by omega)] at part2
    exact part2 a4 _ ((h4.sub (by simp)).sg ⟨hA, hO⟩)
def mx (V : Nat → Nat) (l : List Nat) (s : Nat) : Nat := l.foldl (fun m s => max m (V s - 1)) s
theorem mx_take {V : Nat → Nat} {l : List Nat} {j t : Nat} (ht : l[j]? = some t) (s : Nat) : mx V (l.take (j + 1)) s = max (mx V (l.take j) s) (V t - 1) := by
  unfold mx
  rw [List.take_add_one, ht, Option.toList_some, List.foldl_append]; rfl
theorem mx_le {V : Nat → Nat} (hV : ∀ i, V i ≤ 15) : ∀ (l : List Nat) (s : Nat), s ≤ 15 → mx V l s ≤ 15
  | [], s, h => h
  | x :: l, s, h => mx_le hV l (max s (V x - 1)) (by have := hV x; omega)
set_option maxHeartbeats 1000000 in
theorem steps_inner (n : Nat) (h : Arg W0 X Y Z N g off A) {i b s0 l0 : Nat} (hi : i < N) (hb : wB < b) (hs0 : s0 ≤ 15) (hl0 : l0 ≤ 15) {q : Value} (a : Act) (w : World) (ha : SG (A9s B r N i wB q 0) 120 (GS W0 X Y Z N g off cap r B wB A b q (sidesQ X Y Z i) s0 l0) a w) (Q : Exit → Act → World → Prop)
    (hQ : ∀ a w, SG (A6s B r N i wB) 120 (Has W0 ((wB, wO (mx (fun i => (skyL X Y Z (clA A)).getD i 0) (sidesQ X Y Z i) s0) (mx (fun i => (lampL X Y Z (clA A) (lmA A)).getD i 0) (sidesQ X Y Z i) l0)) :: bs5 X Y Z N g off cap r B A)) a w → Q .normal a w) : (Code.block 4 (.loop Lp4i)).wpIn Fence.wide n Try.prog Q a w := by
  obtain ⟨qp, qc, rfl, hqp⟩ := ownsRow_shape ha.wp.2
  have s15 := (sky_fix (cl := clA A) h.n.symm).1
  have l15 := (lamp_fix (cl := clA A) h.n.symm (lmA_le A)).1
  have hlen : (sidesQ X Y Z i).length < 9000000000 := by
    unfold sidesQ
    have l1 := ite_len (0 < i % X) (i - 1)
    have l2 := ite_len (i % X + 1 < X) (i + 1)
    have l3 := ite_len (0 < i / X % Z) (i - X)
    have l4 := ite_len (i / X % Z + 1 < Z) (i + X)
    have l5 := ite_len (0 < i / X / Z) (i - X * Z)
    have l6 := ite_len (i / X / Z + 1 < Y) (i + X * Z)
    simp only [List.length_append, List.length_nil]; omega
  obtain ⟨l, hl⟩ : ∃ l, l = sidesQ X Y Z i := ⟨_, rfl⟩
  have hmem : ∀ t, t ∈ l → t < N := fun t ht => by
    rw [hl] at ht
    have := (Glow.sides_sym X Y Z i t (by rw [← h.n]; exact hi) (sidesQ_mem.1 ht)).1; rw [h.n]; exact this
  rw [← hl] at ha hqp hQ hlen
  generalize hVs : (fun i => (skyL X Y Z (clA A)).getD i 0) = Vs at hQ s15
  generalize hVl : (fun i => (lampL X Y Z (clA A) (lmA A)).getD i 0) = Vl at hQ l15
  have s15' : ∀ i, Vs i ≤ 15 := fun i => by rw [← hVs]; exact s15 i
  have l15' : ∀ i, Vl i ≤ 15 := fun i => by rw [← hVl]; exact l15 i
  refine wpIn_block (wpIn_loop (fun a w => ∃ j, j ≤ l.length ∧ SG (A9s B r N i wB (.slice qp l.length qc) j) 120 (GS W0 X Y Z N g off cap r B wB A b (.slice qp l.length qc) l (mx Vs (l.take j) s0) (mx Vl (l.take j) l0)) a w)
    (fun a _ => l.length - slotN 9 a) ⟨0, Nat.zero_le _, ha⟩ ?_)
  rintro a w ⟨j, hj, ha⟩
  have e9 := ha.slot (t := 9) (v := j) (k := .i64) (by simp)
  have hG := ha.wp
  unfold Lp4i
  refine wpIn_seq (wpIn_seq (p21 n w B r N i wB l.length qc j qp _ a ha.sr ?_))
  intro a1 h1
  have h1 := h1.sg (G := GS W0 X Y Z N g off cap r B wB A b (.slice qp l.length qc) l (mx Vs (l.take j) s0) (mx Vl (l.take j) l0)) hG
  refine wpIn_cond (t := decide (j < l.length)) (by rw [eval_tmp]; exact h1.kn (83, _) (by simp)) ?_
  by_cases hlt : j < l.length
  · rw [decide_eq_true hlt]
    refine wpIn_skip (wpIn_seq (wpIn_block ?_))
    obtain ⟨nb, rfl⟩ := hqp (by omega)
    obtain ⟨t, ht⟩ : ∃ t, l[j]? = some t := ⟨_, List.getElem?_eq_getElem hlt⟩
    refine steps_round n h (i := i) ht (hmem t (List.mem_of_getElem? ht)) (mx_le s15' _ _ hs0) (mx_le l15' _ _ hl0) hb a1 w _ (h1.sub (by simp)) ?_
    intro a2 w2 h2
    show (regOf 22 C4).wpIn _ _ _ _ _ _
    have hG2 := h2.wp
    refine p22 n w2 B r N i wB l.length qc j _ (by omega) _ a2 h2.sr ?_
    intro a3 h3
    have e1 : max (mx Vs (l.take j) s0) ((skyL X Y Z (clA A)).getD t 0 - 1) = mx Vs (l.take (j + 1)) s0 := by rw [mx_take ht, ← hVs]
    have e2 : max (mx Vl (l.take j) l0) ((lampL X Y Z (clA A) (lmA A)).getD t 0 - 1) = mx Vl (l.take (j + 1)) l0 := by rw [mx_take ht, ← hVl]
    rw [e1, e2] at hG2
    have h3 : SG (A9s B r N i wB (.slice (some ⟨nb, 0, none⟩) l.length qc) (j + 1)) 120 (GS W0 X Y Z N g off cap r B wB A b (.slice (some ⟨nb, 0, none⟩) l.length qc) l (mx Vs (l.take (j + 1)) s0) (mx Vl (l.take (j + 1)) l0)) a3 w2 := h3.sg hG2
    exact ⟨⟨j + 1, hlt, h3⟩, by rw [e9, h3.slot (t := 9) (v := j + 1) (k := .i64) (by simp)]; omega⟩
  · rw [decide_eq_false hlt]
    refine wpIn_exit ?_
    have ej : l.take j = l := List.take_of_length_le (by omega)
    rw [ej] at hG
    exact hQ a1 w ⟨h1.size, h1.defers, (h1.sub (by simp)).kn, hG.1⟩
set_option maxHeartbeats 1000000 in
theorem in4 (n : Nat) (h : Arg W0 X Y Z N g off A) {i : Nat} (hi : i < N) (ec : clA A i = true) (a : Act) (w : World) (ha : SG (A6s B r N i wB) 120 (Has W0 ((wB, wO 0 0) :: bs5 X Y Z N g off cap r B A)) a w) (Q : Exit → Act → World → Prop)
    (hQ : ∀ a w, SG (A6s B r N i wB) 120 (Has W0 ((wB, wO ((skyL X Y Z (clA A)).getD i 0) ((lampL X Y Z (clA A) (lmA A)).getD i 0)) :: bs5 X Y Z N g off cap r B A)) a w → Q .normal a w) : In4.wpIn Fence.wide n Try.prog Q a w := by
  obtain ⟨s15, sfx⟩ := sky_fix (cl := clA A) h.n.symm
  obtain ⟨l15, lfx⟩ := lamp_fix (cl := clA A) h.n.symm (lmA_le A)
  have hN := h.le
  have fold : ∀ (V : Nat → Nat) (src : Nat), V i = max src (Glow.up (Glow.sides X Y Z) V i) → mx V (sidesQ X Y Z i) src = V i := fun V src hv => by
    rw [hv]; exact foldmax_eq (fun s => V s - 1) (fun s => sidesQ_mem) src
  have fl : mx (fun i => (lampL X Y Z (clA A) (lmA A)).getD i 0) (sidesQ X Y Z i) (lmA A i) = (lampL X Y Z (clA A) (lmA A)).getD i 0 := fold _ _ (by have := lfx i hi; rw [if_pos ec] at this; exact this)
  have fs : mx (fun i => (skyL X Y Z (clA A)).getD i 0) (sidesQ X Y Z i) (skyS (clA A) (X * Z) Y i) = (skyL X Y Z (clA A)).getD i 0 := fold _ _ (by have := sfx i hi; rw [if_pos ec] at this; exact this)
  have rest : ∀ s0, s0 ≤ 15 → s0 = skyS (clA A) (X * Z) Y i → ∀ a5 w5, SG (A6s B r N i wB) 120 (Has W0 ((wB, wO s0 (lmA A i)) :: bs5 X Y Z N g off cap r B A)) a5 w5 → (Code.seq (regOf 19 C4) (.seq (regOf 20 C4) (.block 4 (.loop Lp4i)))).wpIn Fence.wide n Try.prog Q a5 w5 := by
    intro s0 hs0 es a5 w5 h5
    refine wpIn_seq (p19 n B r N i wB X Y Z (some ⟨g, off, none⟩) N cap (fun q => GS W0 X Y Z N g off cap r B wB A (wB + 1) q (sidesQ X Y Z i) s0 (lmA A i)) (fun w h => boxs5 sub5 h rfl) (fun w h => boxs5 sub5 h rfl) (fun w h => boxs5 sub5 h rfl) (fun w h => boxs5 sub5 h rfl) (fun m w' hh => ?_) _ a5 w5 h5 ?_)
    · refine (sides_law m X Y Z i (.slice (some ⟨g, off, none⟩) N cap) w' h.x h.y h.z (by rw [← h.n]; exact hi) (by rw [← h.n]; exact hN)).mono ?_
      rintro e w'' ⟨q, rfl, hb, ho⟩
      exact ⟨q, rfl, hh.below hb, ownsRow_mono ho (by have := hh.lt (p := (wB, wO s0 (lmA A i))) (by simp); simp only at this; omega)⟩
    · intro q a6 w6 h6
      have hG6 := h6.wp
      refine wpIn_seq (p20 n w6 B r N i wB q _ a6 h6.sr ?_)
      intro a7 h7
      refine steps_inner n h hi (Nat.lt_succ_self wB) hs0 (lmA_le A i) a7 w6 (h7.sg hG6) _ ?_
      rw [es, fs, fl]
      exact hQ
  have hS := Has.stable W0 ((wB, wO 0 0) :: bs5 X Y Z N g off cap r B A)
  unfold In4
  refine wpIn_seq (p13 n (G1 := Has W0 ((wB, wO 0 (lmA A i)) :: bs5 X Y Z N g off cap r B A)) hS B r N i wB g off cap (kd A i) (lv A i) hi (lmA A i) (fun w h' => boxs5 sub5 h' rfl) (fun w h' => h'.old h.row.lt (h.row.kind hi)) (fun w h' => h'.old h.row.lt (h.row.level hi)) (fun m w' _ => h.row.lamp hi m w')
    (fun w hh => ⟨_, wcell hh (k := 1) List.mem_cons_self rfl⟩) (fun w hh => wfroz hh (s := 0) (l := 0) (by simp) 1) (fun w hh => wset1 hh (lmA A i)) _ a w ha ?_)
  intro a1 w1 h1
  have hG1 := h1.wp
  refine wpIn_seq (p14 n w1 B r N i wB _ a1 h1.sr ?_)
  intro a2 h2
  refine wpIn_seq (up_loop n h hi a2 w1 (h2.sg hG1) _ ?_)
  intro u a3 w3 hu hiff h3
  have hG3 := h3.wp
  refine wpIn_seq (wpIn_seq (p17 n w3 B r N i wB u _ cap (boxs5 sub5 hG3 rfl) _ a3 h3.sr ?_))
  intro a4 h4
  rw [skyS_iff h.n.symm h.x.1 h.z.1 hi] at hiff
  by_cases c : N ≤ u
  · refine wpIn_cond (t := true) (by rw [eval_tmp, h4.kn (75, .bool (decide (N ≤ u))) (by simp)]; simp; omega) ?_
    refine p18 n w3 B r N i wB (wcell hG3 (k := 0) List.mem_cons_self rfl) (wfroz hG3 (s := 0) (l := lmA A i) (by simp) 0) _ a4 (h4.sub (by simp)) ?_
    intro a5 h5
    exact rest 15 (Nat.le_refl _) (by unfold skyS; rw [if_pos (hiff.1 c)]) a5 _ (h5.sg (wset0 hG3 15))
  · refine wpIn_cond (t := false) (by rw [eval_tmp, h4.kn (75, .bool (decide (N ≤ u))) (by simp)]; simp; omega) (wpIn_skip ?_)
    exact rest 0 (Nat.zero_le _) (by unfold skyS; rw [if_neg (fun h => c (hiff.2 h))]) a4 _ ((h4.sub (by simp)).sg hG3)
set_option maxHeartbeats 1000000 in
theorem bd4 (n : Nat) (h : Arg W0 X Y Z N g off A) {i : Nat} (hi : i < N) (a : Act) (w : World) (ha : SG (A5 B r N i) 120 (Has W0 (bs5 X Y Z N g off cap r B A)) a w) (Q : Exit → Act → World → Prop)
    (hQ : ∀ a w, SG (A5 B r N i) 120 (Has W0 (bs5 X Y Z N g off cap r B A)) a w → Q .normal a w) : Bd4.wpIn Fence.wide n Try.prog Q a w := by
  obtain ⟨s15, sfx⟩ := sky_fix (cl := clA A) h.n.symm
  obtain ⟨l15, lfx⟩ := lamp_fix (cl := clA A) h.n.symm (lmA_le A)
  have hG := ha.wp
  unfold Bd4
  refine wpIn_seq (p11 n w B r N i _ a ha.sr ?_)
  intro a1 h1
  have hA := hG.alloc (wO 0 0)
  generalize w.heap.size = wB at hA h1
  have h1 := h1.sg (G := Has W0 ((wB, wO 0 0) :: bs5 X Y Z N g off cap r B A)) hA
  have fin : ∀ a2 w2, SG (A6s B r N i wB) 120 (Has W0 ((wB, wO ((skyL X Y Z (clA A)).getD i 0) ((lampL X Y Z (clA A) (lmA A)).getD i 0)) :: bs5 X Y Z N g off cap r B A)) a2 w2 → (Code.seq (regOf 28 C4) (.cond (.tmp 118) (.seq (regOf 29 C4) .ret) .skip)).wpIn Fence.wide n Try.prog Q a2 w2 := by
    intro a2 w2 h2
    refine wpIn_seq (p28 n (Has.stable _ _) B r N i wB _ _ hi (fun w hh => lights5 sub5 hh (pair_sky _ _ hi)) (fun w hh => lights5 sub5 hh (pair_lamp _ _ hi)) (fun w hh => wcell hh (k := 0) List.mem_cons_self rfl) (fun w hh => wcell hh (k := 1) List.mem_cons_self rfl) _ a2 w2 h2 ?_)
    intro a3 w3 h3
    refine wpIn_cond (t := false) (by rw [eval_tmp]; exact h3.kn (118, .bool false) (by simp)) (wpIn_skip ?_)
    exact hQ a3 w3 ⟨h3.size, h3.defers, (h3.sub (by simp)).kn, h3.wp.tail⟩
  refine wpIn_seq (wpIn_seq (p12 n (Has.stable _ _) B r N i wB g off cap (kd A i) (lv A i) hi (clA A i) (fun w h' => boxs5 sub5 h' rfl) (fun w h' => h'.old h.row.lt (h.row.kind hi)) (fun w h' => h'.old h.row.lt (h.row.level hi)) (fun m w' _ => h.row.open_ hi m w') _ a1 _ h1 ?_))
  intro a2 w2 h2
  refine wpIn_cond (t := clA A i) (by rw [eval_tmp]; exact h2.kn (42, .bool (clA A i)) (by simp)) ?_
  cases ec : clA A i with
  | true => exact in4 n h hi ec a2 w2 (h2.sub (by simp)) _ fin
  | false =>
    refine wpIn_skip (fin a2 w2 ?_)
    rw [show (skyL X Y Z (clA A)).getD i 0 = 0 from sfx.dark hi ec, show (lampL X Y Z (clA A) (lmA A)).getD i 0 = 0 from lfx.dark hi ec]
    exact h2.sub (by simp)
set_option maxHeartbeats 1000000 in
theorem steps_loop (n : Nat) (h : Arg W0 X Y Z N g off A) (a : Act) (w : World) (ha : SG (A5 B r N 0) 120 (Has W0 (bs5 X Y Z N g off cap r B A)) a w) (Q : Exit → Act → World → Prop)
    (hQ : ∀ a w, SG [] 120 (Has W0 (bs5 X Y Z N g off cap r B A)) a w → Q .normal a w) : (Code.block 0 (.loop Lp4)).wpIn Fence.wide n Try.prog Q a w := by
  have hN := h.le
  refine wpIn_block (wpIn_loop (fun a w => ∃ i, i ≤ N ∧ SG (A5 B r N i) 120 (Has W0 (bs5 X Y Z N g off cap r B A)) a w) (fun a _ => N - slotN 5 a) ⟨0, Nat.zero_le _, ha⟩ ?_)
  rintro a w ⟨i, hin, ha⟩
  have e5 := ha.slot (t := 5) (v := i) (k := .i64) (by simp)
  have hG := ha.wp
  unfold Lp4
  refine wpIn_seq (wpIn_seq (p9 n w B r N i _ a ha.sr ?_))
  intro a1 h1
  have h1 := h1.sg (G := Has W0 (bs5 X Y Z N g off cap r B A)) hG
  refine wpIn_cond (t := decide (i < N)) (by rw [eval_tmp]; exact h1.kn (33, _) (by simp)) ?_
  by_cases hlt : i < N
  · rw [decide_eq_true hlt]
    refine wpIn_skip (wpIn_seq (wpIn_block ?_))
    refine bd4 n h hlt a1 w (h1.sub (by simp)) _ ?_
    intro a2 w2 h2
    show (regOf 10 C4).wpIn _ _ _ _ _ _
    have hG2 := h2.wp
    refine p10 n w2 B r N i (by omega) _ a2 h2.sr ?_
    intro a3 h3
    have h3 : SG (A5 B r N (i + 1)) 120 (Has W0 (bs5 X Y Z N g off cap r B A)) a3 w2 := h3.sg hG2
    exact ⟨⟨i + 1, hlt, h3⟩, by rw [e5, h3.slot (t := 5) (v := i + 1) (k := .i64) (by simp)]; omega⟩
  · rw [decide_eq_false hlt]
    refine wpIn_exit ?_
    exact hQ a1 w (h1.sub (by simp))
end
set_option maxHeartbeats 1000000 in
theorem steps_in (n M : Nat) (W0 : World) (X Y Z : Int) (sv : Value) (hs : Sx.SlIn W0 [.u8, .u8] M sv) : CallsIn Fence.wide n Try.prog 4 #[.agg #[.int .i64 X, .int .i64 Y, .int .i64 Z, sv]] W0 fun e w' => e = .returned (.bool true) ∧ Below W0.heap.size W0 w' := by
  obtain ⟨o, len, c, rfl⟩ : ∃ o len c, sv = .slice o len c := by cases hs <;> exact ⟨_, _, _, rfl⟩
  refine callsIn_of_wp Try.func4 rfl trivial ?_
  show C4.wpIn _ _ _ _ _ _
  rw [C4_eq]
  refine wpIn_seq ?_
  refine p0 n W0 X Y Z (.slice o len c) _ _ ⟨by simp [Try.ntmps4], rfl, by simp [Try.ntmps4], rfl⟩ ?_
  intro a1 h1
  have hH := (Has.start W0).alloc (.cells #[.int .i64 X, .int .i64 Y, .int .i64 Z, .slice o len c] 24)
  generalize W0.alloc (.cells #[.int .i64 X, .int .i64 Y, .int .i64 Z, .slice o len c] 24) = W1 at h1 hH ⊢
  obtain ⟨B, hB⟩ : ∃ B, B = W0.heap.size := ⟨_, rfl⟩
  rw [← hB] at h1 hH
  have ret : ∀ bs a w, SG [(2, .bool true)] 120 (Has W0 bs) a w → bodyPost Try.prog Try.f4 (fun e w' => e = .returned (.bool true) ∧ Below W0.heap.size W0 w') .ret a w := fun bs a w h =>
    ⟨h.defers, _, results_tmp (t := 2) rfl _ _ _, by rw [Array.getD_eq_getD_getElem?, h.kn (2, .bool true) (by simp)], h.wp.bel⟩
  have cB : ∀ {w}, Has W0 [(B, .cells #[.int .i64 X, .int .i64 Y, .int .i64 Z, .slice o len c] 24 (0, 0))] w → ∀ {k v}, (#[.int .i64 X, .int .i64 Y, .int .i64 Z, .slice o len c] : Array Value)[k]? = some v → w.cell? ⟨B, k, none⟩ = some v := fun hh _ _ hv => hh.cell (t := 24) (fr := (0, 0)) (by simp) hv
  refine wpIn_seq (wpIn_seq (p1 n W1 B o len c (cB hH rfl) _ a1 h1 ?_))
  intro a2 h2
  have h2 := h2.sg hH
  by_cases hl : (6000 : Int) < len
  · refine wpIn_cond (t := true) (by rw [eval_tmp, h2.kn (14, .bool (decide ((6000 : Int) < len))) (by simp)]; simp; omega) ?_
    refine wpIn_seq (p2 n (Has.stable _ _) (fun m w _ => works_in m w) _ a2 W1 (h2.sub (by simp)) ?_)
    intro a3 w3 h3
    exact wpIn_ret (ret _ a3 w3 h3)
  refine wpIn_cond (t := false) (by rw [eval_tmp, h2.kn (14, .bool (decide ((6000 : Int) < len))) (by simp)]; simp; omega) (wpIn_skip ?_)
  by_cases hc : chk X Y Z len = 0
  · obtain ⟨x, y, z, g, off, A, rfl, rfl, rfl, rfl, h⟩ := arg_of hs hc
    refine wpIn_seq (p3 n B x y z (some ⟨g, off, none⟩) len c len (fun r => Has W0 (bs5 x y z len g off c r B A)) (fun w h => cB h rfl) (fun w h => cB h rfl) (fun w h => cB h rfl) (fun w h => cB h rfl)
      (fun m w hh => light_has m (h.row.old hh) h.x h.y h.z h.n h.le hh) _ a2 W1 (h2.sub (by simp)) ?_)
    intro r a3 w3 h3
    have hG3 := h3.wp
    refine wpIn_seq (wpIn_seq (p4g n w3 B r len 0 _ a3 h3.sr ?_))
    intro a4 h4
    refine wpIn_cond (t := false) (by rw [eval_tmp]; exact h4.kn (22, .bool ((0 : Int) != 0)) (by simp)) (wpIn_skip ?_)
    refine wpIn_seq (wpIn_seq (p6 n w3 B r len (some ⟨g, off, none⟩) c (boxs5 (fun _ h => h) hG3 rfl) _ a4 (h4.sub (by simp)) ?_))
    intro a45 h45
    refine wpIn_cond (t := false) (by rw [eval_tmp]; exact h45.kn (29, .bool false) (by simp)) (wpIn_skip ?_)
    refine wpIn_seq (wpIn_seq (p8 n w3 B r len _ a45 (h45.sub (by simp)) ?_))
    intro a5 h5
    refine steps_loop n h a5 w3 (h5.sg hG3) _ ?_
    intro a6 w6 h6
    refine wpIn_seq (p30 n (Has.stable _ _) (fun m w _ => works_in m w) _ a6 w6 h6 ?_)
    intro a7 w7 h7
    exact wpIn_ret (ret _ a7 w7 h7)
  · refine wpIn_seq (p3b n (Has.stable _ _) B X Y Z o len c (chk X Y Z len) (fun w h => cB h rfl) (fun w h => cB h rfl) (fun w h => cB h rfl) (fun w h => cB h rfl) (fun m w _ => light_bad m X Y Z o len c w hc) _ a2 W1 (h2.sub (by simp)) ?_)
    intro a3 w3 h3
    have hG3 := h3.wp
    refine wpIn_seq (wpIn_seq (p4 n w3 B (chk X Y Z len) _ a3 h3.sr ?_))
    intro a4 h4
    refine wpIn_cond (t := true) (by rw [eval_tmp, h4.kn (22, .bool (chk X Y Z len != 0)) (by simp)]; simp [hc]) ?_
    refine wpIn_seq (p5 n (Has.stable _ _) (fun m w _ => works_in m w) _ a4 w3 ((h4.sg hG3).sub (by simp)) ?_)
    intro a5 w5 h5
    exact wpIn_ret (ret _ a5 w5 h5)
end Go.Proofs.Ytmgiabehooghcaa
