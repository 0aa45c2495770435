/- Glow: the walk of a law. -/
import Derived.RangeFuncNested
import Derived.RangeFuncBound
import Derived.RangeFuncCalls
import Derived.RangeFuncLeaves
import Derived.Shelf.Abstract
import Derived.Shelf.RegionOpen
import Derived.WalkKit
import Derived.OwnWalkIn
import Derived.TacticsInMore
import Derived.LoopNIn
import Derived.LoopIn
import Derived.Lib.Hide
import Derived.IntWalk
import Derived.Maps.AppendAt
import Derived.Test.YtmgiabehooghcaaKc
import Derived.Test.YtmgiabehooghcaaGin
import Derived.Test.YtmgiabehooghcaaH5
namespace Go.Proofs.Ytmgiabehooghcaa
open Go.RowKit Go.Shelf
attribute [local go_sem] Oper.semAt_some

/-! ### GlowNear: its parts -/
noncomputable def C5 : Code := Try.f5.body.getD .skip
set_option maxRecDepth 100000 in
set_option maxHeartbeats 4000000 in
theorem n0 (n : Nat) (W : World) (X Y Z : Int) (cv : Value) (Q : Exit → Act → World → Prop) (a : Act) (h0 : SR [(0, .agg #[.int .i64 X, .int .i64 Y, .int .i64 Z, cv])] 115 [] W a W)
    (hQ : ∀ a, SR [(1, .pointer (some ⟨W.heap.size, 0, none⟩))] 115 [] (W.alloc (.cells #[.int .i64 X, .int .i64 Y, .int .i64 Z, cv] 24)) a (W.alloc (.cells #[.int .i64 X, .int .i64 Y, .int .i64 Z, cv] 24)) → Q .normal a (W.alloc (.cells #[.int .i64 X, .int .i64 Y, .int .i64 Z, cv] 24))) : (regOf 0 C5).wpIn Fence.wide n Try.prog Q a W := by
  simp only [regOf, C5, Try.f5, Option.getD, Nat.reduceBEq, Bool.false_eq_true, if_true, if_false]
  refine region_sq (fun k_ a w => match k_ with | 0 => SR [(0, .agg #[.int .i64 X, .int .i64 Y, .int .i64 Z, cv])] 115 [] (W) a w | 1 => SR [(1, .pointer (some ⟨W.heap.size, 0, none⟩))] 115 [] (W.alloc (.cells #[.int .i64 X, .int .i64 Y, .int .i64 Z, cv] 24)) a w | _ => SR [(1, .pointer (some ⟨W.heap.size, 0, none⟩))] 115 [] (W.alloc (.cells #[.int .i64 X, .int .i64 Y, .int .i64 Z, cv] 24)) a w) (show SR _ _ _ _ a W from h0) ⟨?_, ?_, trivial⟩ ?_
  · intro a w hI
    have hI : SR _ _ _ _ a w := hI
    have e0 := hI.g 0 rfl
    have hw : w = W := hI.wp
    subst hw
    go_simp
    exact hI.put (d := 1) (by decide) (by simp)
  · intro a w hI
    have hI : SR _ _ _ _ a w := hI
    obtain rfl := hI.wp
    go_simp
    exact hI.put (d := 2) (by decide) (by simp)
  · intro a w hI
    have hI : SR _ _ _ _ a w := hI
    obtain rfl := hI.wp
    exact hQ a hI
set_option maxRecDepth 100000 in
set_option maxHeartbeats 4000000 in
theorem n1 (n : Nat) (W : World) (B : Nat) (sp : Option Addr) (len cap : Nat) (c3 : W.cell? ⟨B, 3, none⟩ = some (.slice sp len cap)) (Q : Exit → Act → World → Prop) (a : Act) (h0 : SR [(1, .pointer (some ⟨B, 0, none⟩))] 115 [] W a W)
    (hQ : ∀ a, SR [(1, .pointer (some ⟨B, 0, none⟩)), (12, .bool (decide ((6000 : Int) < len)))] 115 [] (W) a (W) → Q .normal a (W)) : (regOf 1 C5).wpIn Fence.wide n Try.prog Q a W := by
  simp only [regOf, C5, Try.f5, Option.getD, Nat.reduceBEq, Bool.false_eq_true, if_true, if_false]
  refine region_sq (fun k_ a w => match k_ with | 0 => SR [(1, .pointer (some ⟨B, 0, none⟩))] 115 [] (W) a w | 1 => SR [(1, .pointer (some ⟨B, 0, none⟩)), (9, .pointer (some ⟨B, 3, none⟩))] 115 [] (W) a w | 2 => SR [(1, .pointer (some ⟨B, 0, none⟩)), (10, .slice sp len cap)] 115 [] (W) a w | 3 => SR [(1, .pointer (some ⟨B, 0, none⟩)), (11, .int .i64 len)] 115 [] (W) a w | _ => SR [(1, .pointer (some ⟨B, 0, none⟩)), (12, .bool (decide ((6000 : Int) < len)))] 115 [] (W) a w) (show SR _ _ _ _ a W from h0) ⟨?_, ?_, ?_, ?_, trivial⟩ ?_
  · intro a w hI
    have hI : SR _ _ _ _ a w := hI
    have e1 := hI.g 1 rfl
    have hw : w = W := hI.wp
    subst hw
    go_simp
    exact hI.put (d := 9) (by decide) (by simp)
  · intro a w hI
    have hI : SR _ _ _ _ a w := hI
    have e9 := hI.g 9 rfl
    have hw : w = W := hI.wp
    subst hw
    go_simp
    exact hI.put (d := 10) (by decide) (by simp)
  · intro a w hI
    have hI : SR _ _ _ _ a w := hI
    have e10 := hI.g 10 rfl
    have hw : w = W := hI.wp
    subst hw
    go_simp
    exact hI.put (d := 11) (by decide) (by simp)
  · intro a w hI
    have hI : SR _ _ _ _ a w := hI
    have e11 := hI.g 11 rfl
    have hw : w = W := hI.wp
    subst hw
    go_simp
    exact hI.put (d := 12) (by decide) (by simp)
  · intro a w hI
    have hI : SR _ _ _ _ a w := hI
    have hw : w = W := hI.wp
    subst hw
    exact hQ a hI
set_option maxRecDepth 100000 in
set_option maxHeartbeats 4000000 in
theorem n2 (n : Nat) {G : World → Prop} (hS : Stable G)  (hw : ∀ m w, G w → CallsIn Fence.wide m Try.prog 13 #[] w fun e w' => e = .returned (.bool true) ∧ Below w.heap.size w w') (Q : Exit → Act → World → Prop) (a : Act) (w : World) (h0 : SG [] 115 G a w)
    (hQ : ∀ a w, SG [(2, .bool true)] 115 G a w → Q .normal a w) : (regOf 2 C5).wpIn Fence.wide n Try.prog Q a w := by
  simp only [regOf, C5, Try.f5, Option.getD, Nat.reduceBEq, Bool.false_eq_true, if_true, if_false]
  refine region_sq (fun k_ a w => match k_ with | 0 => SG [] 115 G a w | 1 => SG [(13, .bool true)] 115 G a w | _ => SG [(2, .bool true)] 115 G a w) (show SG _ _ G a w from h0) ⟨?_, ?_, trivial⟩ ?_
  · intro a w hI
    have hI : SG _ _ G a w := hI
    go_simp
    refine ⟨trivial, fun h => (by cases h), (hw (n - 1) w hI.wp).mono ?_⟩
    rintro e w' ⟨rfl, hb2⟩
    exact hI.put (d := 13) (by decide) (by simp) (hS _ _ hI.wp hb2)
  · intro a w hI
    have hI : SG _ _ G a w := hI
    have e13 := hI.g 13 rfl
    go_simp
    exact hI.put (d := 2) (by decide) (by simp) hI.wp
  · intro a w hI
    have hI : SG _ _ G a w := hI
    exact hQ a w hI
set_option maxRecDepth 100000 in
set_option maxHeartbeats 4000000 in
theorem n3b (n : Nat) {G : World → Prop} (hS : Stable G) (B : Nat) (X Y Z : Int) (sp : Option Addr) (len cap : Nat) (er : Int) (c0 : ∀ w, G w → w.cell? ⟨B, 0, none⟩ = some (.int .i64 X)) (c1 : ∀ w, G w → w.cell? ⟨B, 1, none⟩ = some (.int .i64 Y)) (c2 : ∀ w, G w → w.cell? ⟨B, 2, none⟩ = some (.int .i64 Z)) (c3 : ∀ w, G w → w.cell? ⟨B, 3, none⟩ = some (.slice sp len cap)) (hc : ∀ m w, G w → CallsIn Fence.wide m Try.prog 14 #[.agg #[.int .i64 X, .int .i64 Y, .int .i64 Z, .slice sp len cap]] w fun e w' => e = .returned (.tuple #[.slice none 0 0, .int .i64 er]) ∧ Below w.heap.size w w') (Q : Exit → Act → World → Prop) (a : Act) (w : World) (h0 : SG [(1, .pointer (some ⟨B, 0, none⟩))] 115 G a w)
    (hQ : ∀ a w, SG [(1, .pointer (some ⟨B, 0, none⟩)), (4, .int .i64 er)] 115 G a w → Q .normal a w) : (regOf 3 C5).wpIn Fence.wide n Try.prog Q a w := by
  simp only [regOf, C5, Try.f5, Option.getD, Nat.reduceBEq, Bool.false_eq_true, if_true, if_false]
  refine region_sq (fun k_ a w => match k_ with | 0 => SG [(1, .pointer (some ⟨B, 0, none⟩))] 115 G a w | 1 => SG [(1, .pointer (some ⟨B, 0, none⟩)), (15, .agg #[.int .i64 X, .int .i64 Y, .int .i64 Z, .slice sp len cap])] 115 G a w | 2 => SG [(1, .pointer (some ⟨B, 0, none⟩)), (16, .tuple #[.slice none 0 0, .int .i64 er])] 115 G a w | 3 => SG [(1, .pointer (some ⟨B, 0, none⟩)), (14, .tuple #[.slice none 0 0, .int .i64 er])] 115 G a w | 4 => SG [(1, .pointer (some ⟨B, 0, none⟩)), (14, .tuple #[.slice none 0 0, .int .i64 er]), (17, .slice none 0 0)] 115 G a w | 5 => SG [(1, .pointer (some ⟨B, 0, none⟩)), (17, .slice none 0 0), (18, .int .i64 er)] 115 G a w | 6 => SG [(1, .pointer (some ⟨B, 0, none⟩)), (18, .int .i64 er)] 115 G a w | _ => SG [(1, .pointer (some ⟨B, 0, none⟩)), (4, .int .i64 er)] 115 G a w) (show SG _ _ G a w from h0) ⟨?_, ?_, ?_, ?_, ?_, ?_, ?_, trivial⟩ ?_
  · intro a w hI
    have hI : SG _ _ G a w := hI
    have e1 := hI.g 1 rfl
    have cc0 := c0 w hI.wp
    have cc1 := c1 w hI.wp
    have cc2 := c2 w hI.wp
    have cc3 := c3 w hI.wp
    go_simp
    exact hI.put (d := 15) (by decide) (by simp) hI.wp
  · intro a w hI
    have hI : SG _ _ G a w := hI
    have e15 := hI.g 15 rfl
    go_simp
    refine ⟨trivial, fun h => (by cases h), (hc (n - 1) w hI.wp).mono ?_⟩
    rintro e w' ⟨rfl, hb2⟩
    exact hI.put (d := 16) (by decide) (by simp) (hS _ _ hI.wp hb2)
  · intro a w hI
    have hI : SG _ _ G a w := hI
    have e16 := hI.g 16 rfl
    go_simp
    exact hI.put (d := 14) (by decide) (by simp) hI.wp
  · intro a w hI
    have hI : SG _ _ G a w := hI
    have e14 := hI.g 14 rfl
    go_simp
    exact hI.put (d := 17) (by decide) (by simp) hI.wp
  · intro a w hI
    have hI : SG _ _ G a w := hI
    have e14 := hI.g 14 rfl
    go_simp
    exact hI.put (d := 18) (by decide) (by simp) hI.wp
  · intro a w hI
    have hI : SG _ _ G a w := hI
    have e17 := hI.g 17 rfl
    go_simp
    exact hI.put (d := 3) (by decide) (by simp) hI.wp
  · intro a w hI
    have hI : SG _ _ G a w := hI
    have e18 := hI.g 18 rfl
    go_simp
    exact hI.put (d := 4) (by decide) (by simp) hI.wp
  · intro a w hI
    have hI : SG _ _ G a w := hI
    exact hQ a w hI
set_option maxRecDepth 100000 in
set_option maxHeartbeats 4000000 in
theorem n3 (n : Nat) {G : World → Prop} (B : Nat) (X Y Z : Int) (sp : Option Addr) (len cap : Nat) (N : Nat) (G1 : Nat → World → Prop) (c0 : ∀ w, G w → w.cell? ⟨B, 0, none⟩ = some (.int .i64 X)) (c1 : ∀ w, G w → w.cell? ⟨B, 1, none⟩ = some (.int .i64 Y)) (c2 : ∀ w, G w → w.cell? ⟨B, 2, none⟩ = some (.int .i64 Z)) (c3 : ∀ w, G w → w.cell? ⟨B, 3, none⟩ = some (.slice sp len cap)) (hc : ∀ m w, G w → CallsIn Fence.wide m Try.prog 14 #[.agg #[.int .i64 X, .int .i64 Y, .int .i64 Z, .slice sp len cap]] w fun e w' => ∃ (r : Nat), e = .returned (.tuple #[.slice (some ⟨r, 0, none⟩) N N, .int .i64 0]) ∧ (G1 r) w') (Q : Exit → Act → World → Prop) (a : Act) (w : World) (h0 : SG [(1, .pointer (some ⟨B, 0, none⟩))] 115 G a w)
    (hQ : ∀ (r : Nat) a w, SG [(1, .pointer (some ⟨B, 0, none⟩)), (3, .slice (some ⟨r, 0, none⟩) N N), (4, .int .i64 0)] 115 (G1 r) a w → Q .normal a w) : (regOf 3 C5).wpIn Fence.wide n Try.prog Q a w := by
  simp only [regOf, C5, Try.f5, Option.getD, Nat.reduceBEq, Bool.false_eq_true, if_true, if_false]
  refine region_sq (fun k_ a w => match k_ with | 0 => SG [(1, .pointer (some ⟨B, 0, none⟩))] 115 G a w | 1 => SG [(1, .pointer (some ⟨B, 0, none⟩)), (15, .agg #[.int .i64 X, .int .i64 Y, .int .i64 Z, .slice sp len cap])] 115 G a w | 2 => ∃ (r : Nat), SG [(1, .pointer (some ⟨B, 0, none⟩)), (16, .tuple #[.slice (some ⟨r, 0, none⟩) N N, .int .i64 0])] 115 (G1 r) a w | 3 => ∃ (r : Nat), SG [(1, .pointer (some ⟨B, 0, none⟩)), (14, .tuple #[.slice (some ⟨r, 0, none⟩) N N, .int .i64 0])] 115 (G1 r) a w | 4 => ∃ (r : Nat), SG [(1, .pointer (some ⟨B, 0, none⟩)), (14, .tuple #[.slice (some ⟨r, 0, none⟩) N N, .int .i64 0]), (17, .slice (some ⟨r, 0, none⟩) N N)] 115 (G1 r) a w | 5 => ∃ (r : Nat), SG [(1, .pointer (some ⟨B, 0, none⟩)), (17, .slice (some ⟨r, 0, none⟩) N N), (18, .int .i64 0)] 115 (G1 r) a w | 6 => ∃ (r : Nat), SG [(1, .pointer (some ⟨B, 0, none⟩)), (18, .int .i64 0), (3, .slice (some ⟨r, 0, none⟩) N N)] 115 (G1 r) a w | _ => ∃ (r : Nat), SG [(1, .pointer (some ⟨B, 0, none⟩)), (3, .slice (some ⟨r, 0, none⟩) N N), (4, .int .i64 0)] 115 (G1 r) a w) (show SG _ _ G a w from h0) ⟨?_, ?_, ?_, ?_, ?_, ?_, ?_, trivial⟩ ?_
  · intro a w hI
    have hI : SG _ _ G a w := hI
    have e1 := hI.g 1 rfl
    have cc0 := c0 w hI.wp
    have cc1 := c1 w hI.wp
    have cc2 := c2 w hI.wp
    have cc3 := c3 w hI.wp
    go_simp
    exact hI.put (d := 15) (by decide) (by simp) hI.wp
  · intro a w hI
    have hI : SG _ _ G a w := hI
    have e15 := hI.g 15 rfl
    go_simp
    refine ⟨trivial, fun h => (by cases h), (hc (n - 1) w hI.wp).mono ?_⟩
    rintro e w' ⟨r, rfl, hg2⟩
    exact ⟨r, hI.put (d := 16) (by decide) (by simp) hg2⟩
  · rintro a w ⟨r, hI⟩
    have e16 := hI.g 16 rfl
    go_simp
    exact ⟨r, hI.put (d := 14) (by decide) (by simp) hI.wp⟩
  · rintro a w ⟨r, hI⟩
    have e14 := hI.g 14 rfl
    go_simp
    exact ⟨r, hI.put (d := 17) (by decide) (by simp) hI.wp⟩
  · rintro a w ⟨r, hI⟩
    have e14 := hI.g 14 rfl
    go_simp
    exact ⟨r, hI.put (d := 18) (by decide) (by simp) hI.wp⟩
  · rintro a w ⟨r, hI⟩
    have e17 := hI.g 17 rfl
    go_simp
    exact ⟨r, hI.put (d := 3) (by decide) (by simp) hI.wp⟩
  · rintro a w ⟨r, hI⟩
    have e18 := hI.g 18 rfl
    go_simp
    exact ⟨r, hI.put (d := 4) (by decide) (by simp) hI.wp⟩
  · rintro a w ⟨r, hI⟩
    exact hQ r a w hI
set_option maxRecDepth 100000 in
set_option maxHeartbeats 4000000 in
theorem n4 (n : Nat) (W : World) (B : Nat) (er : Int) (Q : Exit → Act → World → Prop) (a : Act) (h0 : SR [(1, .pointer (some ⟨B, 0, none⟩)), (4, .int .i64 er)] 115 [] W a W)
    (hQ : ∀ a, SR [(1, .pointer (some ⟨B, 0, none⟩)), (20, .bool (er != 0))] 115 [] (W) a (W) → Q .normal a (W)) : (regOf 4 C5).wpIn Fence.wide n Try.prog Q a W := by
  simp only [regOf, C5, Try.f5, Option.getD, Nat.reduceBEq, Bool.false_eq_true, if_true, if_false]
  refine region_sq (fun k_ a w => match k_ with | 0 => SR [(1, .pointer (some ⟨B, 0, none⟩)), (4, .int .i64 er)] 115 [] (W) a w | 1 => SR [(1, .pointer (some ⟨B, 0, none⟩)), (19, .int .i64 er)] 115 [] (W) a w | _ => SR [(1, .pointer (some ⟨B, 0, none⟩)), (20, .bool (er != 0))] 115 [] (W) a w) (show SR _ _ _ _ a W from h0) ⟨?_, ?_, trivial⟩ ?_
  · intro a w hI
    have hI : SR _ _ _ _ a w := hI
    have e4 := hI.g 4 rfl
    have hw : w = W := hI.wp
    subst hw
    go_simp
    exact hI.put (d := 19) (by decide) (by simp)
  · intro a w hI
    have hI : SR _ _ _ _ a w := hI
    have e19 := hI.g 19 rfl
    have hw : w = W := hI.wp
    subst hw
    go_simp
    exact hI.put (d := 20) (by decide) (by simp)
  · intro a w hI
    have hI : SR _ _ _ _ a w := hI
    have hw : w = W := hI.wp
    subst hw
    exact hQ a hI
set_option maxRecDepth 100000 in
set_option maxHeartbeats 4000000 in
theorem n4g (n : Nat) (W : World) (B r N : Nat) (er : Int) (Q : Exit → Act → World → Prop) (a : Act) (h0 : SR [(1, .pointer (some ⟨B, 0, none⟩)), (3, .slice (some ⟨r, 0, none⟩) N N), (4, .int .i64 er)] 115 [] W a W)
    (hQ : ∀ a, SR [(1, .pointer (some ⟨B, 0, none⟩)), (3, .slice (some ⟨r, 0, none⟩) N N), (20, .bool (er != 0))] 115 [] (W) a (W) → Q .normal a (W)) : (regOf 4 C5).wpIn Fence.wide n Try.prog Q a W := by
  simp only [regOf, C5, Try.f5, Option.getD, Nat.reduceBEq, Bool.false_eq_true, if_true, if_false]
  refine region_sq (fun k_ a w => match k_ with | 0 => SR [(1, .pointer (some ⟨B, 0, none⟩)), (3, .slice (some ⟨r, 0, none⟩) N N), (4, .int .i64 er)] 115 [] (W) a w | 1 => SR [(1, .pointer (some ⟨B, 0, none⟩)), (3, .slice (some ⟨r, 0, none⟩) N N), (19, .int .i64 er)] 115 [] (W) a w | _ => SR [(1, .pointer (some ⟨B, 0, none⟩)), (3, .slice (some ⟨r, 0, none⟩) N N), (20, .bool (er != 0))] 115 [] (W) a w) (show SR _ _ _ _ a W from h0) ⟨?_, ?_, trivial⟩ ?_
  · intro a w hI
    have hI : SR _ _ _ _ a w := hI
    have e4 := hI.g 4 rfl
    have hw : w = W := hI.wp
    subst hw
    go_simp
    exact hI.put (d := 19) (by decide) (by simp)
  · intro a w hI
    have hI : SR _ _ _ _ a w := hI
    have e19 := hI.g 19 rfl
    have hw : w = W := hI.wp
    subst hw
    go_simp
    exact hI.put (d := 20) (by decide) (by simp)
  · intro a w hI
    have hI : SR _ _ _ _ a w := hI
    have hw : w = W := hI.wp
    subst hw
    exact hQ a hI
set_option maxRecDepth 100000 in
set_option maxHeartbeats 4000000 in
theorem n5 (n : Nat) {G : World → Prop} (hS : Stable G)  (hw : ∀ m w, G w → CallsIn Fence.wide m Try.prog 13 #[] w fun e w' => e = .returned (.bool true) ∧ Below w.heap.size w w') (Q : Exit → Act → World → Prop) (a : Act) (w : World) (h0 : SG [] 115 G a w)
    (hQ : ∀ a w, SG [(2, .bool true)] 115 G a w → Q .normal a w) : (regOf 5 C5).wpIn Fence.wide n Try.prog Q a w := by
  simp only [regOf, C5, Try.f5, Option.getD, Nat.reduceBEq, Bool.false_eq_true, if_true, if_false]
  refine region_sq (fun k_ a w => match k_ with | 0 => SG [] 115 G a w | 1 => SG [(21, .bool true)] 115 G a w | _ => SG [(2, .bool true)] 115 G a w) (show SG _ _ G a w from h0) ⟨?_, ?_, trivial⟩ ?_
  · intro a w hI
    have hI : SG _ _ G a w := hI
    go_simp
    refine ⟨trivial, fun h => (by cases h), (hw (n - 1) w hI.wp).mono ?_⟩
    rintro e w' ⟨rfl, hb2⟩
    exact hI.put (d := 21) (by decide) (by simp) (hS _ _ hI.wp hb2)
  · intro a w hI
    have hI : SG _ _ G a w := hI
    have e21 := hI.g 21 rfl
    go_simp
    exact hI.put (d := 2) (by decide) (by simp) hI.wp
  · intro a w hI
    have hI : SG _ _ G a w := hI
    exact hQ a w hI
set_option maxRecDepth 100000 in
set_option maxHeartbeats 4000000 in
theorem n6 (n : Nat) (W : World) (B r N : Nat) (Q : Exit → Act → World → Prop) (a : Act) (h0 : SR [(1, .pointer (some ⟨B, 0, none⟩)), (3, .slice (some ⟨r, 0, none⟩) N N)] 115 [] W a W)
    (hQ : ∀ a, SR [(1, .pointer (some ⟨B, 0, none⟩)), (3, .slice (some ⟨r, 0, none⟩) N N), (5, .int .i64 0)] 115 [] (W) a (W) → Q .normal a (W)) : (regOf 6 C5).wpIn Fence.wide n Try.prog Q a W := by
  simp only [regOf, C5, Try.f5, Option.getD, Nat.reduceBEq, Bool.false_eq_true, if_true, if_false]
  refine region_sq (fun k_ a w => match k_ with | 0 => SR [(1, .pointer (some ⟨B, 0, none⟩)), (3, .slice (some ⟨r, 0, none⟩) N N)] 115 [] (W) a w | _ => SR [(1, .pointer (some ⟨B, 0, none⟩)), (3, .slice (some ⟨r, 0, none⟩) N N), (5, .int .i64 0)] 115 [] (W) a w) (show SR _ _ _ _ a W from h0) ⟨?_, trivial⟩ ?_
  · intro a w hI
    have hI : SR _ _ _ _ a w := hI
    have hw : w = W := hI.wp
    subst hw
    go_simp
    exact hI.put (d := 5) (by decide) (by simp)
  · intro a w hI
    have hI : SR _ _ _ _ a w := hI
    have hw : w = W := hI.wp
    subst hw
    exact hQ a hI
set_option maxRecDepth 100000 in
set_option maxHeartbeats 4000000 in
theorem n7 (n : Nat) (W : World) (B r N i : Nat) (Q : Exit → Act → World → Prop) (a : Act) (h0 : SR [(1, .pointer (some ⟨B, 0, none⟩)), (3, .slice (some ⟨r, 0, none⟩) N N), (5, .int .i64 i)] 115 [] W a W)
    (hQ : ∀ a, SR [(1, .pointer (some ⟨B, 0, none⟩)), (3, .slice (some ⟨r, 0, none⟩) N N), (5, .int .i64 i), (25, .bool (decide (i < N)))] 115 [] (W) a (W) → Q .normal a (W)) : (regOf 7 C5).wpIn Fence.wide n Try.prog Q a W := by
  simp only [regOf, C5, Try.f5, Option.getD, Nat.reduceBEq, Bool.false_eq_true, if_true, if_false]
  refine region_sq (fun k_ a w => match k_ with | 0 => SR [(1, .pointer (some ⟨B, 0, none⟩)), (3, .slice (some ⟨r, 0, none⟩) N N), (5, .int .i64 i)] 115 [] (W) a w | 1 => SR [(1, .pointer (some ⟨B, 0, none⟩)), (3, .slice (some ⟨r, 0, none⟩) N N), (5, .int .i64 i), (22, .int .i64 i)] 115 [] (W) a w | 2 => SR [(1, .pointer (some ⟨B, 0, none⟩)), (3, .slice (some ⟨r, 0, none⟩) N N), (5, .int .i64 i), (22, .int .i64 i), (23, .slice (some ⟨r, 0, none⟩) N N)] 115 [] (W) a w | 3 => SR [(1, .pointer (some ⟨B, 0, none⟩)), (3, .slice (some ⟨r, 0, none⟩) N N), (5, .int .i64 i), (22, .int .i64 i), (24, .int .i64 N)] 115 [] (W) a w | _ => SR [(1, .pointer (some ⟨B, 0, none⟩)), (3, .slice (some ⟨r, 0, none⟩) N N), (5, .int .i64 i), (25, .bool (decide (i < N)))] 115 [] (W) a w) (show SR _ _ _ _ a W from h0) ⟨?_, ?_, ?_, ?_, trivial⟩ ?_
  · intro a w hI
    have hI : SR _ _ _ _ a w := hI
    have e5 := hI.g 5 rfl
    have hw : w = W := hI.wp
    subst hw
    go_simp
    exact hI.put (d := 22) (by decide) (by simp)
  · intro a w hI
    have hI : SR _ _ _ _ a w := hI
    have e3 := hI.g 3 rfl
    have hw : w = W := hI.wp
    subst hw
    go_simp
    exact hI.put (d := 23) (by decide) (by simp)
  · intro a w hI
    have hI : SR _ _ _ _ a w := hI
    have e23 := hI.g 23 rfl
    have hw : w = W := hI.wp
    subst hw
    go_simp
    exact hI.put (d := 24) (by decide) (by simp)
  · intro a w hI
    have hI : SR _ _ _ _ a w := hI
    have e22 := hI.g 22 rfl
    have e24 := hI.g 24 rfl
    have hw : w = W := hI.wp
    subst hw
    go_simp
    exact hI.put (d := 25) (by decide) (by simp)
  · intro a w hI
    have hI : SR _ _ _ _ a w := hI
    have hw : w = W := hI.wp
    subst hw
    exact hQ a hI
set_option maxRecDepth 100000 in
set_option maxHeartbeats 4000000 in
theorem n8 (n : Nat) (W : World) (B r N i : Nat) (hi : i < 9000000000) (Q : Exit → Act → World → Prop) (a : Act) (h0 : SR [(1, .pointer (some ⟨B, 0, none⟩)), (3, .slice (some ⟨r, 0, none⟩) N N), (5, .int .i64 i)] 115 [] W a W)
    (hQ : ∀ a, SR [(1, .pointer (some ⟨B, 0, none⟩)), (3, .slice (some ⟨r, 0, none⟩) N N), (5, .int .i64 ((i : Int) + 1))] 115 [] (W) a (W) → Q .normal a (W)) : (regOf 8 C5).wpIn Fence.wide n Try.prog Q a W := by
  simp only [regOf, C5, Try.f5, Option.getD, Nat.reduceBEq, Bool.false_eq_true, if_true, if_false]
  refine region_sq (fun k_ a w => match k_ with | 0 => SR [(1, .pointer (some ⟨B, 0, none⟩)), (3, .slice (some ⟨r, 0, none⟩) N N), (5, .int .i64 i)] 115 [] (W) a w | 1 => SR [(1, .pointer (some ⟨B, 0, none⟩)), (3, .slice (some ⟨r, 0, none⟩) N N), (26, .int .i64 i)] 115 [] (W) a w | 2 => SR [(1, .pointer (some ⟨B, 0, none⟩)), (3, .slice (some ⟨r, 0, none⟩) N N), (27, .int .i64 ((i : Int) + 1))] 115 [] (W) a w | _ => SR [(1, .pointer (some ⟨B, 0, none⟩)), (3, .slice (some ⟨r, 0, none⟩) N N), (5, .int .i64 ((i : Int) + 1))] 115 [] (W) a w) (show SR _ _ _ _ a W from h0) ⟨?_, ?_, ?_, trivial⟩ ?_
  · intro a w hI
    have hI : SR _ _ _ _ a w := hI
    have e5 := hI.g 5 rfl
    have hw : w = W := hI.wp
    subst hw
    go_simp
    exact hI.put (d := 26) (by decide) (by simp)
  · intro a w hI
    have hI : SR _ _ _ _ a w := hI
    have e26 := hI.g 26 rfl
    have hw : w = W := hI.wp
    subst hw
    have hw1 : IntKind.i64.wrap ((i : Int) + 1) = (i : Int) + 1 := IntWalk.i64_in _ (by omega)
    go_simp
    exact hI.put (d := 27) (by decide) (by simp)
  · intro a w hI
    have hI : SR _ _ _ _ a w := hI
    have e27 := hI.g 27 rfl
    have hw : w = W := hI.wp
    subst hw
    go_simp
    exact hI.put (d := 5) (by decide) (by simp)
  · intro a w hI
    have hI : SR _ _ _ _ a w := hI
    have hw : w = W := hI.wp
    subst hw
    exact hQ a hI
set_option maxRecDepth 100000 in
set_option maxHeartbeats 4000000 in
theorem n9t (n : Nat) {G : World → Prop} (hS : Stable G) (B r N i g off cap k v s l : Nat) (hi : i < N) (hs : s ≤ 15) (hl : l ≤ 15) (li0 : ∀ w, G w → w.cell? ⟨r, i * 2, none⟩ = some (.int .u8 s)) (li1 : ∀ w, G w → w.cell? ⟨r, i * 2 + 1, none⟩ = some (.int .u8 l)) (c3 : ∀ w, G w → w.cell? ⟨B, 3, none⟩ = some (.slice (some ⟨g, off, none⟩) N cap)) (ca0 : ∀ w, G w → w.cell? ⟨g, off + i * 2, none⟩ = some (.int .u8 k)) (ca1 : ∀ w, G w → w.cell? ⟨g, off + i * 2 + 1, none⟩ = some (.int .u8 v)) (ho : ∀ m w, G w → CallsIn Fence.wide m Try.prog 17 #[.agg #[.int .u8 k, .int .u8 v]] w fun e w' => e = .returned (.bool true) ∧ Below w.heap.size w w') (Q : Exit → Act → World → Prop) (a : Act) (w : World) (h0 : SG [(1, .pointer (some ⟨B, 0, none⟩)), (3, .slice (some ⟨r, 0, none⟩) N N), (5, .int .i64 i)] 115 G a w)
    (hQ : ∀ a w, SG [(1, .pointer (some ⟨B, 0, none⟩)), (3, .slice (some ⟨r, 0, none⟩) N N), (5, .int .i64 i), (58, .bool false)] 115 G a w → Q .normal a w) : (regOf 9 C5).wpIn Fence.wide n Try.prog Q a w := by
  simp only [regOf, C5, Try.f5, Option.getD, Nat.reduceBEq, Bool.false_eq_true, if_true, if_false]
  refine region_sq (fun k_ a w => match k_ with | 0 => SG [(1, .pointer (some ⟨B, 0, none⟩)), (3, .slice (some ⟨r, 0, none⟩) N N), (5, .int .i64 i)] 115 G a w | 1 => SG [(1, .pointer (some ⟨B, 0, none⟩)), (3, .slice (some ⟨r, 0, none⟩) N N), (5, .int .i64 i), (28, .slice (some ⟨r, 0, none⟩) N N)] 115 G a w | 2 => SG [(1, .pointer (some ⟨B, 0, none⟩)), (3, .slice (some ⟨r, 0, none⟩) N N), (5, .int .i64 i), (28, .slice (some ⟨r, 0, none⟩) N N), (29, .int .i64 i)] 115 G a w | 3 => SG [(1, .pointer (some ⟨B, 0, none⟩)), (3, .slice (some ⟨r, 0, none⟩) N N), (5, .int .i64 i), (30, .pointer (some ⟨r, i * 2, none⟩))] 115 G a w | 4 => SG [(1, .pointer (some ⟨B, 0, none⟩)), (3, .slice (some ⟨r, 0, none⟩) N N), (5, .int .i64 i), (31, .pointer (some ⟨r, i * 2, none⟩))] 115 G a w | 5 => SG [(1, .pointer (some ⟨B, 0, none⟩)), (3, .slice (some ⟨r, 0, none⟩) N N), (5, .int .i64 i), (32, .int .u8 s)] 115 G a w | 6 => SG [(1, .pointer (some ⟨B, 0, none⟩)), (3, .slice (some ⟨r, 0, none⟩) N N), (5, .int .i64 i), (33, .bool false)] 115 G a w | 7 => SG [(1, .pointer (some ⟨B, 0, none⟩)), (3, .slice (some ⟨r, 0, none⟩) N N), (5, .int .i64 i), (34, .bool false)] 115 G a w | 8 => SG [(1, .pointer (some ⟨B, 0, none⟩)), (3, .slice (some ⟨r, 0, none⟩) N N), (5, .int .i64 i), (34, .bool false), (35, .slice (some ⟨r, 0, none⟩) N N)] 115 G a w | 9 => SG [(1, .pointer (some ⟨B, 0, none⟩)), (3, .slice (some ⟨r, 0, none⟩) N N), (5, .int .i64 i), (34, .bool false), (35, .slice (some ⟨r, 0, none⟩) N N), (36, .int .i64 i)] 115 G a w | 10 => SG [(1, .pointer (some ⟨B, 0, none⟩)), (3, .slice (some ⟨r, 0, none⟩) N N), (5, .int .i64 i), (34, .bool false), (37, .pointer (some ⟨r, i * 2, none⟩))] 115 G a w | 11 => SG [(1, .pointer (some ⟨B, 0, none⟩)), (3, .slice (some ⟨r, 0, none⟩) N N), (5, .int .i64 i), (34, .bool false), (38, .pointer (some ⟨r, i * 2 + 1, none⟩))] 115 G a w | 12 => SG [(1, .pointer (some ⟨B, 0, none⟩)), (3, .slice (some ⟨r, 0, none⟩) N N), (5, .int .i64 i), (34, .bool false), (39, .int .u8 l)] 115 G a w | 13 => SG [(1, .pointer (some ⟨B, 0, none⟩)), (3, .slice (some ⟨r, 0, none⟩) N N), (5, .int .i64 i), (34, .bool false), (40, .bool false)] 115 G a w | 14 => SG [(1, .pointer (some ⟨B, 0, none⟩)), (3, .slice (some ⟨r, 0, none⟩) N N), (5, .int .i64 i), (41, .bool false)] 115 G a w | 15 => SG [(1, .pointer (some ⟨B, 0, none⟩)), (3, .slice (some ⟨r, 0, none⟩) N N), (5, .int .i64 i), (42, .bool false)] 115 G a w | 16 => SG [(1, .pointer (some ⟨B, 0, none⟩)), (3, .slice (some ⟨r, 0, none⟩) N N), (5, .int .i64 i), (42, .bool false), (43, .pointer (some ⟨B, 3, none⟩))] 115 G a w | 17 => SG [(1, .pointer (some ⟨B, 0, none⟩)), (3, .slice (some ⟨r, 0, none⟩) N N), (5, .int .i64 i), (42, .bool false), (44, .slice (some ⟨g, off, none⟩) N cap)] 115 G a w | 18 => SG [(1, .pointer (some ⟨B, 0, none⟩)), (3, .slice (some ⟨r, 0, none⟩) N N), (5, .int .i64 i), (42, .bool false), (44, .slice (some ⟨g, off, none⟩) N cap), (45, .int .i64 i)] 115 G a w | 19 => SG [(1, .pointer (some ⟨B, 0, none⟩)), (3, .slice (some ⟨r, 0, none⟩) N N), (5, .int .i64 i), (42, .bool false), (46, .pointer (some ⟨g, off + i * 2, none⟩))] 115 G a w | 20 => SG [(1, .pointer (some ⟨B, 0, none⟩)), (3, .slice (some ⟨r, 0, none⟩) N N), (5, .int .i64 i), (42, .bool false), (47, .agg #[.int .u8 k, .int .u8 v])] 115 G a w | 21 => SG [(1, .pointer (some ⟨B, 0, none⟩)), (3, .slice (some ⟨r, 0, none⟩) N N), (5, .int .i64 i), (42, .bool false), (48, .bool true)] 115 G a w | 22 => SG [(1, .pointer (some ⟨B, 0, none⟩)), (3, .slice (some ⟨r, 0, none⟩) N N), (5, .int .i64 i), (42, .bool false), (49, .bool false)] 115 G a w | 23 => SG [(1, .pointer (some ⟨B, 0, none⟩)), (3, .slice (some ⟨r, 0, none⟩) N N), (5, .int .i64 i), (42, .bool false), (50, .bool false)] 115 G a w | 24 => SG [(1, .pointer (some ⟨B, 0, none⟩)), (3, .slice (some ⟨r, 0, none⟩) N N), (5, .int .i64 i), (42, .bool false), (50, .bool false)] 115 G a w | 25 => SG [(1, .pointer (some ⟨B, 0, none⟩)), (3, .slice (some ⟨r, 0, none⟩) N N), (5, .int .i64 i), (42, .bool false), (50, .bool false)] 115 G a w | 26 => SG [(1, .pointer (some ⟨B, 0, none⟩)), (3, .slice (some ⟨r, 0, none⟩) N N), (5, .int .i64 i), (42, .bool false), (50, .bool false)] 115 G a w | 27 => SG [(1, .pointer (some ⟨B, 0, none⟩)), (3, .slice (some ⟨r, 0, none⟩) N N), (5, .int .i64 i), (42, .bool false), (50, .bool false)] 115 G a w | 28 => SG [(1, .pointer (some ⟨B, 0, none⟩)), (3, .slice (some ⟨r, 0, none⟩) N N), (5, .int .i64 i), (42, .bool false), (50, .bool false)] 115 G a w | 29 => SG [(1, .pointer (some ⟨B, 0, none⟩)), (3, .slice (some ⟨r, 0, none⟩) N N), (5, .int .i64 i), (42, .bool false), (50, .bool false)] 115 G a w | 30 => SG [(1, .pointer (some ⟨B, 0, none⟩)), (3, .slice (some ⟨r, 0, none⟩) N N), (5, .int .i64 i), (42, .bool false), (57, .bool false)] 115 G a w | _ => SG [(1, .pointer (some ⟨B, 0, none⟩)), (3, .slice (some ⟨r, 0, none⟩) N N), (5, .int .i64 i), (58, .bool false)] 115 G a w) (show SG _ _ G a w from h0) ⟨?_, ?_, ?_, ?_, ?_, ?_, ?_, ?_, ?_, ?_, ?_, ?_, ?_, ?_, ?_, ?_, ?_, ?_, ?_, ?_, ?_, ?_, ?_, ?_, ?_, ?_, ?_, ?_, ?_, ?_, ?_, trivial⟩ ?_
  · intro a w hI
    have hI : SG _ _ G a w := hI
    have e3 := hI.g 3 rfl
    go_simp
    exact hI.put (d := 28) (by decide) (by simp) hI.wp
  · intro a w hI
    have hI : SG _ _ G a w := hI
    have e5 := hI.g 5 rfl
    go_simp
    exact hI.put (d := 29) (by decide) (by simp) hI.wp
  · intro a w hI
    have hI : SG _ _ G a w := hI
    have e28 := hI.g 28 rfl
    have e29 := hI.g 29 rfl
    have q1_2 : (0 : Int) ≤ i := by omega
    have q2_2 : (i : Int) < N := by omega
    go_simp
    exact hI.put (d := 30) (by decide) (by simp) hI.wp
  · intro a w hI
    have hI : SG _ _ G a w := hI
    have e30 := hI.g 30 rfl
    go_simp
    exact hI.put (d := 31) (by decide) (by simp) hI.wp
  · intro a w hI
    have hI : SG _ _ G a w := hI
    have e31 := hI.g 31 rfl
    have cc0 := li0 w hI.wp
    go_simp
    exact hI.put (d := 32) (by decide) (by simp) hI.wp
  · intro a w hI
    have hI : SG _ _ G a w := hI
    have e32 := hI.g 32 rfl
    have z1 : ¬ ((15 : Int) < (s : Nat)) := by omega
    have z2 : ¬ (15 < s) := by omega
    go_simp
    exact hI.put (d := 33) (by decide) (by simp) hI.wp
  · intro a w hI
    have hI : SG _ _ G a w := hI
    have e33 := hI.g 33 rfl
    go_simp
    exact hI.put (d := 34) (by decide) (by simp) hI.wp
  · intro a w hI
    have hI : SG _ _ G a w := hI
    have e3 := hI.g 3 rfl
    have e34 := hI.g 34 rfl
    have f34 := slot_bool e34
    go_simp
    exact hI.put (d := 35) (by decide) (by simp) hI.wp
  · intro a w hI
    have hI : SG _ _ G a w := hI
    have e5 := hI.g 5 rfl
    have e34 := hI.g 34 rfl
    have f34 := slot_bool e34
    go_simp
    exact hI.put (d := 36) (by decide) (by simp) hI.wp
  · intro a w hI
    have hI : SG _ _ G a w := hI
    have e35 := hI.g 35 rfl
    have e36 := hI.g 36 rfl
    have e34 := hI.g 34 rfl
    have f34 := slot_bool e34
    have q1_9 : (0 : Int) ≤ i := by omega
    have q2_9 : (i : Int) < N := by omega
    go_simp
    exact hI.put (d := 37) (by decide) (by simp) hI.wp
  · intro a w hI
    have hI : SG _ _ G a w := hI
    have e37 := hI.g 37 rfl
    have e34 := hI.g 34 rfl
    have f34 := slot_bool e34
    go_simp
    exact hI.put (d := 38) (by decide) (by simp) hI.wp
  · intro a w hI
    have hI : SG _ _ G a w := hI
    have e38 := hI.g 38 rfl
    have e34 := hI.g 34 rfl
    have f34 := slot_bool e34
    have cc0 := li1 w hI.wp
    go_simp
    exact hI.put (d := 39) (by decide) (by simp) hI.wp
  · intro a w hI
    have hI : SG _ _ G a w := hI
    have e39 := hI.g 39 rfl
    have e34 := hI.g 34 rfl
    have f34 := slot_bool e34
    have z1 : ¬ ((15 : Int) < (l : Nat)) := by omega
    have z2 : ¬ (15 < l) := by omega
    go_simp
    exact hI.put (d := 40) (by decide) (by simp) hI.wp
  · intro a w hI
    have hI : SG _ _ G a w := hI
    have e34 := hI.g 34 rfl
    have e40 := hI.g 40 rfl
    go_simp
    exact hI.put (d := 41) (by decide) (by simp) hI.wp
  · intro a w hI
    have hI : SG _ _ G a w := hI
    have e41 := hI.g 41 rfl
    go_simp
    exact hI.put (d := 42) (by decide) (by simp) hI.wp
  · intro a w hI
    have hI : SG _ _ G a w := hI
    have e1 := hI.g 1 rfl
    have e42 := hI.g 42 rfl
    have f42 := slot_bool e42
    go_simp
    exact hI.put (d := 43) (by decide) (by simp) hI.wp
  · intro a w hI
    have hI : SG _ _ G a w := hI
    have e43 := hI.g 43 rfl
    have e42 := hI.g 42 rfl
    have f42 := slot_bool e42
    have cc0 := c3 w hI.wp
    go_simp
    exact hI.put (d := 44) (by decide) (by simp) hI.wp
  · intro a w hI
    have hI : SG _ _ G a w := hI
    have e5 := hI.g 5 rfl
    have e42 := hI.g 42 rfl
    have f42 := slot_bool e42
    go_simp
    exact hI.put (d := 45) (by decide) (by simp) hI.wp
  · intro a w hI
    have hI : SG _ _ G a w := hI
    have e44 := hI.g 44 rfl
    have e45 := hI.g 45 rfl
    have e42 := hI.g 42 rfl
    have f42 := slot_bool e42
    have q1_18 : (0 : Int) ≤ i := by omega
    have q2_18 : (i : Int) < N := by omega
    go_simp
    exact hI.put (d := 46) (by decide) (by simp) hI.wp
  · intro a w hI
    have hI : SG _ _ G a w := hI
    have e46 := hI.g 46 rfl
    have e42 := hI.g 42 rfl
    have f42 := slot_bool e42
    have cc0 := ca0 w hI.wp
    have cc1 := ca1 w hI.wp
    go_simp
    exact hI.put (d := 47) (by decide) (by simp) hI.wp
  · intro a w hI
    have hI : SG _ _ G a w := hI
    have e47 := hI.g 47 rfl
    have e42 := hI.g 42 rfl
    have f42 := slot_bool e42
    go_simp
    refine ⟨trivial, fun h => (by cases h), (ho (n - 1) w hI.wp).mono ?_⟩
    rintro e w' ⟨rfl, hb2⟩
    exact hI.put (d := 48) (by decide) (by simp) (hS _ _ hI.wp hb2)
  · intro a w hI
    have hI : SG _ _ G a w := hI
    have e48 := hI.g 48 rfl
    have e42 := hI.g 42 rfl
    have f42 := slot_bool e42
    go_simp
    exact hI.put (d := 49) (by decide) (by simp) hI.wp
  · intro a w hI
    have hI : SG _ _ G a w := hI
    have e49 := hI.g 49 rfl
    have e42 := hI.g 42 rfl
    have f42 := slot_bool e42
    go_simp
    exact hI.put (d := 50) (by decide) (by simp) hI.wp
  · intro a w hI
    have hI : SG _ _ G a w := hI
    have e50 := hI.g 50 rfl
    have f50 := slot_bool e50
    go_simp
    exact hI.put (d := 51) (by decide) (by simp) hI.wp
  · intro a w hI
    have hI : SG _ _ G a w := hI
    have e50 := hI.g 50 rfl
    have f50 := slot_bool e50
    go_simp
    exact hI.put (d := 52) (by decide) (by simp) hI.wp
  · intro a w hI
    have hI : SG _ _ G a w := hI
    have e50 := hI.g 50 rfl
    have f50 := slot_bool e50
    go_simp
    exact hI.put (d := 53) (by decide) (by simp) hI.wp
  · intro a w hI
    have hI : SG _ _ G a w := hI
    have e50 := hI.g 50 rfl
    have f50 := slot_bool e50
    go_simp
    exact hI.put (d := 54) (by decide) (by simp) hI.wp
  · intro a w hI
    have hI : SG _ _ G a w := hI
    have e50 := hI.g 50 rfl
    have f50 := slot_bool e50
    go_simp
    exact hI.put (d := 55) (by decide) (by simp) hI.wp
  · intro a w hI
    have hI : SG _ _ G a w := hI
    have e50 := hI.g 50 rfl
    have f50 := slot_bool e50
    go_simp
    exact hI.put (d := 56) (by decide) (by simp) hI.wp
  · intro a w hI
    have hI : SG _ _ G a w := hI
    have e50 := hI.g 50 rfl
    have e42 := hI.g 42 rfl
    have f42 := slot_bool e42
    go_simp
    exact hI.put (d := 57) (by decide) (by simp) hI.wp
  · intro a w hI
    have hI : SG _ _ G a w := hI
    have e42 := hI.g 42 rfl
    have e57 := hI.g 57 rfl
    go_simp
    exact hI.put (d := 58) (by decide) (by simp) hI.wp
  · intro a w hI
    have hI : SG _ _ G a w := hI
    exact hQ a w hI
set_option maxRecDepth 100000 in
set_option maxHeartbeats 4000000 in
theorem n9f (n : Nat) {G : World → Prop} (hS : Stable G) (B r N i g off cap k v : Nat) (hi : i < N) (li0 : ∀ w, G w → w.cell? ⟨r, i * 2, none⟩ = some (.int .u8 0)) (li1 : ∀ w, G w → w.cell? ⟨r, i * 2 + 1, none⟩ = some (.int .u8 0)) (c3 : ∀ w, G w → w.cell? ⟨B, 3, none⟩ = some (.slice (some ⟨g, off, none⟩) N cap)) (ca0 : ∀ w, G w → w.cell? ⟨g, off + i * 2, none⟩ = some (.int .u8 k)) (ca1 : ∀ w, G w → w.cell? ⟨g, off + i * 2 + 1, none⟩ = some (.int .u8 v)) (ho : ∀ m w, G w → CallsIn Fence.wide m Try.prog 17 #[.agg #[.int .u8 k, .int .u8 v]] w fun e w' => e = .returned (.bool false) ∧ Below w.heap.size w w') (Q : Exit → Act → World → Prop) (a : Act) (w : World) (h0 : SG [(1, .pointer (some ⟨B, 0, none⟩)), (3, .slice (some ⟨r, 0, none⟩) N N), (5, .int .i64 i)] 115 G a w)
    (hQ : ∀ a w, SG [(1, .pointer (some ⟨B, 0, none⟩)), (3, .slice (some ⟨r, 0, none⟩) N N), (5, .int .i64 i), (58, .bool false)] 115 G a w → Q .normal a w) : (regOf 9 C5).wpIn Fence.wide n Try.prog Q a w := by
  simp only [regOf, C5, Try.f5, Option.getD, Nat.reduceBEq, Bool.false_eq_true, if_true, if_false]
  refine region_sq (fun k_ a w => match k_ with | 0 => SG [(1, .pointer (some ⟨B, 0, none⟩)), (3, .slice (some ⟨r, 0, none⟩) N N), (5, .int .i64 i)] 115 G a w | 1 => SG [(1, .pointer (some ⟨B, 0, none⟩)), (3, .slice (some ⟨r, 0, none⟩) N N), (5, .int .i64 i), (28, .slice (some ⟨r, 0, none⟩) N N)] 115 G a w | 2 => SG [(1, .pointer (some ⟨B, 0, none⟩)), (3, .slice (some ⟨r, 0, none⟩) N N), (5, .int .i64 i), (28, .slice (some ⟨r, 0, none⟩) N N), (29, .int .i64 i)] 115 G a w | 3 => SG [(1, .pointer (some ⟨B, 0, none⟩)), (3, .slice (some ⟨r, 0, none⟩) N N), (5, .int .i64 i), (30, .pointer (some ⟨r, i * 2, none⟩))] 115 G a w | 4 => SG [(1, .pointer (some ⟨B, 0, none⟩)), (3, .slice (some ⟨r, 0, none⟩) N N), (5, .int .i64 i), (31, .pointer (some ⟨r, i * 2, none⟩))] 115 G a w | 5 => SG [(1, .pointer (some ⟨B, 0, none⟩)), (3, .slice (some ⟨r, 0, none⟩) N N), (5, .int .i64 i), (32, .int .u8 0)] 115 G a w | 6 => SG [(1, .pointer (some ⟨B, 0, none⟩)), (3, .slice (some ⟨r, 0, none⟩) N N), (5, .int .i64 i), (33, .bool false)] 115 G a w | 7 => SG [(1, .pointer (some ⟨B, 0, none⟩)), (3, .slice (some ⟨r, 0, none⟩) N N), (5, .int .i64 i), (34, .bool false)] 115 G a w | 8 => SG [(1, .pointer (some ⟨B, 0, none⟩)), (3, .slice (some ⟨r, 0, none⟩) N N), (5, .int .i64 i), (34, .bool false), (35, .slice (some ⟨r, 0, none⟩) N N)] 115 G a w | 9 => SG [(1, .pointer (some ⟨B, 0, none⟩)), (3, .slice (some ⟨r, 0, none⟩) N N), (5, .int .i64 i), (34, .bool false), (35, .slice (some ⟨r, 0, none⟩) N N), (36, .int .i64 i)] 115 G a w | 10 => SG [(1, .pointer (some ⟨B, 0, none⟩)), (3, .slice (some ⟨r, 0, none⟩) N N), (5, .int .i64 i), (34, .bool false), (37, .pointer (some ⟨r, i * 2, none⟩))] 115 G a w | 11 => SG [(1, .pointer (some ⟨B, 0, none⟩)), (3, .slice (some ⟨r, 0, none⟩) N N), (5, .int .i64 i), (34, .bool false), (38, .pointer (some ⟨r, i * 2 + 1, none⟩))] 115 G a w | 12 => SG [(1, .pointer (some ⟨B, 0, none⟩)), (3, .slice (some ⟨r, 0, none⟩) N N), (5, .int .i64 i), (34, .bool false), (39, .int .u8 0)] 115 G a w | 13 => SG [(1, .pointer (some ⟨B, 0, none⟩)), (3, .slice (some ⟨r, 0, none⟩) N N), (5, .int .i64 i), (34, .bool false), (40, .bool false)] 115 G a w | 14 => SG [(1, .pointer (some ⟨B, 0, none⟩)), (3, .slice (some ⟨r, 0, none⟩) N N), (5, .int .i64 i), (41, .bool false)] 115 G a w | 15 => SG [(1, .pointer (some ⟨B, 0, none⟩)), (3, .slice (some ⟨r, 0, none⟩) N N), (5, .int .i64 i), (42, .bool false)] 115 G a w | 16 => SG [(1, .pointer (some ⟨B, 0, none⟩)), (3, .slice (some ⟨r, 0, none⟩) N N), (5, .int .i64 i), (42, .bool false), (43, .pointer (some ⟨B, 3, none⟩))] 115 G a w | 17 => SG [(1, .pointer (some ⟨B, 0, none⟩)), (3, .slice (some ⟨r, 0, none⟩) N N), (5, .int .i64 i), (42, .bool false), (44, .slice (some ⟨g, off, none⟩) N cap)] 115 G a w | 18 => SG [(1, .pointer (some ⟨B, 0, none⟩)), (3, .slice (some ⟨r, 0, none⟩) N N), (5, .int .i64 i), (42, .bool false), (44, .slice (some ⟨g, off, none⟩) N cap), (45, .int .i64 i)] 115 G a w | 19 => SG [(1, .pointer (some ⟨B, 0, none⟩)), (3, .slice (some ⟨r, 0, none⟩) N N), (5, .int .i64 i), (42, .bool false), (46, .pointer (some ⟨g, off + i * 2, none⟩))] 115 G a w | 20 => SG [(1, .pointer (some ⟨B, 0, none⟩)), (3, .slice (some ⟨r, 0, none⟩) N N), (5, .int .i64 i), (42, .bool false), (47, .agg #[.int .u8 k, .int .u8 v])] 115 G a w | 21 => SG [(1, .pointer (some ⟨B, 0, none⟩)), (3, .slice (some ⟨r, 0, none⟩) N N), (5, .int .i64 i), (42, .bool false), (48, .bool false)] 115 G a w | 22 => SG [(1, .pointer (some ⟨B, 0, none⟩)), (3, .slice (some ⟨r, 0, none⟩) N N), (5, .int .i64 i), (42, .bool false), (49, .bool true)] 115 G a w | 23 => SG [(1, .pointer (some ⟨B, 0, none⟩)), (3, .slice (some ⟨r, 0, none⟩) N N), (5, .int .i64 i), (42, .bool false), (50, .bool true)] 115 G a w | 24 => SG [(1, .pointer (some ⟨B, 0, none⟩)), (3, .slice (some ⟨r, 0, none⟩) N N), (5, .int .i64 i), (42, .bool false), (50, .bool true), (51, .slice (some ⟨r, 0, none⟩) N N)] 115 G a w | 25 => SG [(1, .pointer (some ⟨B, 0, none⟩)), (3, .slice (some ⟨r, 0, none⟩) N N), (5, .int .i64 i), (42, .bool false), (50, .bool true), (51, .slice (some ⟨r, 0, none⟩) N N), (52, .int .i64 i)] 115 G a w | 26 => SG [(1, .pointer (some ⟨B, 0, none⟩)), (3, .slice (some ⟨r, 0, none⟩) N N), (5, .int .i64 i), (42, .bool false), (50, .bool true), (53, .pointer (some ⟨r, i * 2, none⟩))] 115 G a w | 27 => SG [(1, .pointer (some ⟨B, 0, none⟩)), (3, .slice (some ⟨r, 0, none⟩) N N), (5, .int .i64 i), (42, .bool false), (50, .bool true), (54, .agg #[.int .u8 0, .int .u8 0])] 115 G a w | 28 => SG [(1, .pointer (some ⟨B, 0, none⟩)), (3, .slice (some ⟨r, 0, none⟩) N N), (5, .int .i64 i), (42, .bool false), (50, .bool true), (54, .agg #[.int .u8 0, .int .u8 0]), (55, .agg #[.int .u8 0, .int .u8 0])] 115 G a w | 29 => SG [(1, .pointer (some ⟨B, 0, none⟩)), (3, .slice (some ⟨r, 0, none⟩) N N), (5, .int .i64 i), (42, .bool false), (50, .bool true), (56, .bool false)] 115 G a w | 30 => SG [(1, .pointer (some ⟨B, 0, none⟩)), (3, .slice (some ⟨r, 0, none⟩) N N), (5, .int .i64 i), (42, .bool false), (57, .bool false)] 115 G a w | _ => SG [(1, .pointer (some ⟨B, 0, none⟩)), (3, .slice (some ⟨r, 0, none⟩) N N), (5, .int .i64 i), (58, .bool false)] 115 G a w) (show SG _ _ G a w from h0) ⟨?_, ?_, ?_, ?_, ?_, ?_, ?_, ?_, ?_, ?_, ?_, ?_, ?_, ?_, ?_, ?_, ?_, ?_, ?_, ?_, ?_, ?_, ?_, ?_, ?_, ?_, ?_, ?_, ?_, ?_, ?_, trivial⟩ ?_
  · intro a w hI
    have hI : SG _ _ G a w := hI
    have e3 := hI.g 3 rfl
    go_simp
    exact hI.put (d := 28) (by decide) (by simp) hI.wp
  · intro a w hI
    have hI : SG _ _ G a w := hI
    have e5 := hI.g 5 rfl
    go_simp
    exact hI.put (d := 29) (by decide) (by simp) hI.wp
  · intro a w hI
    have hI : SG _ _ G a w := hI
    have e28 := hI.g 28 rfl
    have e29 := hI.g 29 rfl
    have q1_2 : (0 : Int) ≤ i := by omega
    have q2_2 : (i : Int) < N := by omega
    go_simp
    exact hI.put (d := 30) (by decide) (by simp) hI.wp
  · intro a w hI
    have hI : SG _ _ G a w := hI
    have e30 := hI.g 30 rfl
    go_simp
    exact hI.put (d := 31) (by decide) (by simp) hI.wp
  · intro a w hI
    have hI : SG _ _ G a w := hI
    have e31 := hI.g 31 rfl
    have cc0 := li0 w hI.wp
    go_simp
    exact hI.put (d := 32) (by decide) (by simp) hI.wp
  · intro a w hI
    have hI : SG _ _ G a w := hI
    have e32 := hI.g 32 rfl
    go_simp
    exact hI.put (d := 33) (by decide) (by simp) hI.wp
  · intro a w hI
    have hI : SG _ _ G a w := hI
    have e33 := hI.g 33 rfl
    go_simp
    exact hI.put (d := 34) (by decide) (by simp) hI.wp
  · intro a w hI
    have hI : SG _ _ G a w := hI
    have e3 := hI.g 3 rfl
    have e34 := hI.g 34 rfl
    have f34 := slot_bool e34
    go_simp
    exact hI.put (d := 35) (by decide) (by simp) hI.wp
  · intro a w hI
    have hI : SG _ _ G a w := hI
    have e5 := hI.g 5 rfl
    have e34 := hI.g 34 rfl
    have f34 := slot_bool e34
    go_simp
    exact hI.put (d := 36) (by decide) (by simp) hI.wp
  · intro a w hI
    have hI : SG _ _ G a w := hI
    have e35 := hI.g 35 rfl
    have e36 := hI.g 36 rfl
    have e34 := hI.g 34 rfl
    have f34 := slot_bool e34
    have q1_9 : (0 : Int) ≤ i := by omega
    have q2_9 : (i : Int) < N := by omega
    go_simp
    exact hI.put (d := 37) (by decide) (by simp) hI.wp
  · intro a w hI
    have hI : SG _ _ G a w := hI
    have e37 := hI.g 37 rfl
    have e34 := hI.g 34 rfl
    have f34 := slot_bool e34
    go_simp
    exact hI.put (d := 38) (by decide) (by simp) hI.wp
  · intro a w hI
    have hI : SG _ _ G a w := hI
    have e38 := hI.g 38 rfl
    have e34 := hI.g 34 rfl
    have f34 := slot_bool e34
    have cc0 := li1 w hI.wp
    go_simp
    exact hI.put (d := 39) (by decide) (by simp) hI.wp
  · intro a w hI
    have hI : SG _ _ G a w := hI
    have e39 := hI.g 39 rfl
    have e34 := hI.g 34 rfl
    have f34 := slot_bool e34
    go_simp
    exact hI.put (d := 40) (by decide) (by simp) hI.wp
  · intro a w hI
    have hI : SG _ _ G a w := hI
    have e34 := hI.g 34 rfl
    have e40 := hI.g 40 rfl
    go_simp
    exact hI.put (d := 41) (by decide) (by simp) hI.wp
  · intro a w hI
    have hI : SG _ _ G a w := hI
    have e41 := hI.g 41 rfl
    go_simp
    exact hI.put (d := 42) (by decide) (by simp) hI.wp
  · intro a w hI
    have hI : SG _ _ G a w := hI
    have e1 := hI.g 1 rfl
    have e42 := hI.g 42 rfl
    have f42 := slot_bool e42
    go_simp
    exact hI.put (d := 43) (by decide) (by simp) hI.wp
  · intro a w hI
    have hI : SG _ _ G a w := hI
    have e43 := hI.g 43 rfl
    have e42 := hI.g 42 rfl
    have f42 := slot_bool e42
    have cc0 := c3 w hI.wp
    go_simp
    exact hI.put (d := 44) (by decide) (by simp) hI.wp
  · intro a w hI
    have hI : SG _ _ G a w := hI
    have e5 := hI.g 5 rfl
    have e42 := hI.g 42 rfl
    have f42 := slot_bool e42
    go_simp
    exact hI.put (d := 45) (by decide) (by simp) hI.wp
  · intro a w hI
    have hI : SG _ _ G a w := hI
    have e44 := hI.g 44 rfl
    have e45 := hI.g 45 rfl
    have e42 := hI.g 42 rfl
    have f42 := slot_bool e42
    have q1_18 : (0 : Int) ≤ i := by omega
    have q2_18 : (i : Int) < N := by omega
    go_simp
    exact hI.put (d := 46) (by decide) (by simp) hI.wp
  · intro a w hI
    have hI : SG _ _ G a w := hI
    have e46 := hI.g 46 rfl
    have e42 := hI.g 42 rfl
    have f42 := slot_bool e42
    have cc0 := ca0 w hI.wp
    have cc1 := ca1 w hI.wp
    go_simp
    exact hI.put (d := 47) (by decide) (by simp) hI.wp
  · intro a w hI
    have hI : SG _ _ G a w := hI
    have e47 := hI.g 47 rfl
    have e42 := hI.g 42 rfl
    have f42 := slot_bool e42
    go_simp
    refine ⟨trivial, fun h => (by cases h), (ho (n - 1) w hI.wp).mono ?_⟩
    rintro e w' ⟨rfl, hb2⟩
    exact hI.put (d := 48) (by decide) (by simp) (hS _ _ hI.wp hb2)
  · intro a w hI
    have hI : SG _ _ G a w := hI
    have e48 := hI.g 48 rfl
    have e42 := hI.g 42 rfl
    have f42 := slot_bool e42
    go_simp
    exact hI.put (d := 49) (by decide) (by simp) hI.wp
  · intro a w hI
    have hI : SG _ _ G a w := hI
    have e49 := hI.g 49 rfl
    have e42 := hI.g 42 rfl
    have f42 := slot_bool e42
    go_simp
    exact hI.put (d := 50) (by decide) (by simp) hI.wp
  · intro a w hI
    have hI : SG _ _ G a w := hI
    have e3 := hI.g 3 rfl
    have e50 := hI.g 50 rfl
    have f50 := slot_bool e50
    go_simp
    exact hI.put (d := 51) (by decide) (by simp) hI.wp
  · intro a w hI
    have hI : SG _ _ G a w := hI
    have e5 := hI.g 5 rfl
    have e50 := hI.g 50 rfl
    have f50 := slot_bool e50
    go_simp
    exact hI.put (d := 52) (by decide) (by simp) hI.wp
  · intro a w hI
    have hI : SG _ _ G a w := hI
    have e51 := hI.g 51 rfl
    have e52 := hI.g 52 rfl
    have e50 := hI.g 50 rfl
    have f50 := slot_bool e50
    have q1_25 : (0 : Int) ≤ i := by omega
    have q2_25 : (i : Int) < N := by omega
    go_simp
    exact hI.put (d := 53) (by decide) (by simp) hI.wp
  · intro a w hI
    have hI : SG _ _ G a w := hI
    have e53 := hI.g 53 rfl
    have e50 := hI.g 50 rfl
    have f50 := slot_bool e50
    have cc0 := li0 w hI.wp
    have cc1 := li1 w hI.wp
    go_simp
    exact hI.put (d := 54) (by decide) (by simp) hI.wp
  · intro a w hI
    have hI : SG _ _ G a w := hI
    have e50 := hI.g 50 rfl
    have f50 := slot_bool e50
    go_simp
    exact hI.put (d := 55) (by decide) (by simp) hI.wp
  · intro a w hI
    have hI : SG _ _ G a w := hI
    have e54 := hI.g 54 rfl
    have e55 := hI.g 55 rfl
    have e50 := hI.g 50 rfl
    have f50 := slot_bool e50
    go_simp
    exact hI.put (d := 56) (by decide) (by simp) hI.wp
  · intro a w hI
    have hI : SG _ _ G a w := hI
    have e50 := hI.g 50 rfl
    have e56 := hI.g 56 rfl
    have e42 := hI.g 42 rfl
    have f42 := slot_bool e42
    go_simp
    exact hI.put (d := 57) (by decide) (by simp) hI.wp
  · intro a w hI
    have hI : SG _ _ G a w := hI
    have e42 := hI.g 42 rfl
    have e57 := hI.g 57 rfl
    go_simp
    exact hI.put (d := 58) (by decide) (by simp) hI.wp
  · intro a w hI
    have hI : SG _ _ G a w := hI
    exact hQ a w hI
set_option maxRecDepth 100000 in
set_option maxHeartbeats 4000000 in
theorem n11 (n : Nat) {G : World → Prop} (B r N i : Nat) (X Y Z : Int) (sp : Option Addr) (len cap : Nat) (G1 : Value → World → Prop) (c0 : ∀ w, G w → w.cell? ⟨B, 0, none⟩ = some (.int .i64 X)) (c1 : ∀ w, G w → w.cell? ⟨B, 1, none⟩ = some (.int .i64 Y)) (c2 : ∀ w, G w → w.cell? ⟨B, 2, none⟩ = some (.int .i64 Z)) (c3 : ∀ w, G w → w.cell? ⟨B, 3, none⟩ = some (.slice sp len cap)) (hc : ∀ m w, G w → CallsIn Fence.wide m Try.prog 19 #[.agg #[.int .i64 X, .int .i64 Y, .int .i64 Z, .slice sp len cap], .int .i64 i] w fun e w' => ∃ (q : Value), e = .returned (q) ∧ (G1 q) w') (Q : Exit → Act → World → Prop) (a : Act) (w : World) (h0 : SG [(1, .pointer (some ⟨B, 0, none⟩)), (3, .slice (some ⟨r, 0, none⟩) N N), (5, .int .i64 i)] 115 G a w)
    (hQ : ∀ (q : Value) a w, SG [(1, .pointer (some ⟨B, 0, none⟩)), (3, .slice (some ⟨r, 0, none⟩) N N), (5, .int .i64 i), (6, q)] 115 (G1 q) a w → Q .normal a w) : (regOf 11 C5).wpIn Fence.wide n Try.prog Q a w := by
  simp only [regOf, C5, Try.f5, Option.getD, Nat.reduceBEq, Bool.false_eq_true, if_true, if_false]
  refine region_sq (fun k_ a w => match k_ with | 0 => SG [(1, .pointer (some ⟨B, 0, none⟩)), (3, .slice (some ⟨r, 0, none⟩) N N), (5, .int .i64 i)] 115 G a w | 1 => SG [(1, .pointer (some ⟨B, 0, none⟩)), (3, .slice (some ⟨r, 0, none⟩) N N), (5, .int .i64 i), (59, .agg #[.int .i64 X, .int .i64 Y, .int .i64 Z, .slice sp len cap])] 115 G a w | 2 => SG [(1, .pointer (some ⟨B, 0, none⟩)), (3, .slice (some ⟨r, 0, none⟩) N N), (5, .int .i64 i), (59, .agg #[.int .i64 X, .int .i64 Y, .int .i64 Z, .slice sp len cap]), (60, .int .i64 i)] 115 G a w | 3 => ∃ (q : Value), SG [(1, .pointer (some ⟨B, 0, none⟩)), (3, .slice (some ⟨r, 0, none⟩) N N), (5, .int .i64 i), (61, q)] 115 (G1 q) a w | _ => ∃ (q : Value), SG [(1, .pointer (some ⟨B, 0, none⟩)), (3, .slice (some ⟨r, 0, none⟩) N N), (5, .int .i64 i), (6, q)] 115 (G1 q) a w) (show SG _ _ G a w from h0) ⟨?_, ?_, ?_, ?_, trivial⟩ ?_
  · intro a w hI
    have hI : SG _ _ G a w := hI
    have e1 := hI.g 1 rfl
    have cc0 := c0 w hI.wp
    have cc1 := c1 w hI.wp
    have cc2 := c2 w hI.wp
    have cc3 := c3 w hI.wp
    go_simp
    exact hI.put (d := 59) (by decide) (by simp) hI.wp
  · intro a w hI
    have hI : SG _ _ G a w := hI
    have e5 := hI.g 5 rfl
    go_simp
    exact hI.put (d := 60) (by decide) (by simp) hI.wp
  · intro a w hI
    have hI : SG _ _ G a w := hI
    have e59 := hI.g 59 rfl
    have e60 := hI.g 60 rfl
    go_simp
    refine ⟨trivial, fun h => (by cases h), (hc (n - 1) w hI.wp).mono ?_⟩
    rintro e w' ⟨q, rfl, hg2⟩
    exact ⟨q, hI.put (d := 61) (by decide) (by simp) hg2⟩
  · rintro a w ⟨q, hI⟩
    have e61 := hI.g 61 rfl
    go_simp
    exact ⟨q, hI.put (d := 6) (by decide) (by simp) hI.wp⟩
  · rintro a w ⟨q, hI⟩
    exact hQ q a w hI
set_option maxRecDepth 100000 in
set_option maxHeartbeats 4000000 in
theorem n12 (n : Nat) (W : World) (B r N i : Nat) (q : Value) (Q : Exit → Act → World → Prop) (a : Act) (h0 : SR [(1, .pointer (some ⟨B, 0, none⟩)), (3, .slice (some ⟨r, 0, none⟩) N N), (5, .int .i64 i), (6, q)] 115 [] W a W)
    (hQ : ∀ a, SR [(1, .pointer (some ⟨B, 0, none⟩)), (3, .slice (some ⟨r, 0, none⟩) N N), (5, .int .i64 i), (6, q), (7, .int .i64 0)] 115 [] (W) a (W) → Q .normal a (W)) : (regOf 12 C5).wpIn Fence.wide n Try.prog Q a W := by
  simp only [regOf, C5, Try.f5, Option.getD, Nat.reduceBEq, Bool.false_eq_true, if_true, if_false]
  refine region_sq (fun k_ a w => match k_ with | 0 => SR [(1, .pointer (some ⟨B, 0, none⟩)), (3, .slice (some ⟨r, 0, none⟩) N N), (5, .int .i64 i), (6, q)] 115 [] (W) a w | _ => SR [(1, .pointer (some ⟨B, 0, none⟩)), (3, .slice (some ⟨r, 0, none⟩) N N), (5, .int .i64 i), (6, q), (7, .int .i64 0)] 115 [] (W) a w) (show SR _ _ _ _ a W from h0) ⟨?_, trivial⟩ ?_
  · intro a w hI
    have hI : SR _ _ _ _ a w := hI
    have hw : w = W := hI.wp
    subst hw
    go_simp
    exact hI.put (d := 7) (by decide) (by simp)
  · intro a w hI
    have hI : SR _ _ _ _ a w := hI
    have hw : w = W := hI.wp
    subst hw
    exact hQ a hI
set_option maxRecDepth 100000 in
set_option maxHeartbeats 4000000 in
theorem n13 (n : Nat) (W : World) (B r N i M qc j : Nat) (qp : Option Addr) (Q : Exit → Act → World → Prop) (a : Act) (h0 : SR [(1, .pointer (some ⟨B, 0, none⟩)), (3, .slice (some ⟨r, 0, none⟩) N N), (5, .int .i64 i), (6, .slice qp M qc), (7, .int .i64 j)] 115 [] W a W)
    (hQ : ∀ a, SR [(1, .pointer (some ⟨B, 0, none⟩)), (3, .slice (some ⟨r, 0, none⟩) N N), (5, .int .i64 i), (6, .slice qp M qc), (7, .int .i64 j), (65, .bool (decide (j < M)))] 115 [] (W) a (W) → Q .normal a (W)) : (regOf 13 C5).wpIn Fence.wide n Try.prog Q a W := by
  simp only [regOf, C5, Try.f5, Option.getD, Nat.reduceBEq, Bool.false_eq_true, if_true, if_false]
  refine region_sq (fun k_ a w => match k_ with | 0 => SR [(1, .pointer (some ⟨B, 0, none⟩)), (3, .slice (some ⟨r, 0, none⟩) N N), (5, .int .i64 i), (6, .slice qp M qc), (7, .int .i64 j)] 115 [] (W) a w | 1 => SR [(1, .pointer (some ⟨B, 0, none⟩)), (3, .slice (some ⟨r, 0, none⟩) N N), (5, .int .i64 i), (6, .slice qp M qc), (7, .int .i64 j), (62, .int .i64 j)] 115 [] (W) a w | 2 => SR [(1, .pointer (some ⟨B, 0, none⟩)), (3, .slice (some ⟨r, 0, none⟩) N N), (5, .int .i64 i), (6, .slice qp M qc), (7, .int .i64 j), (62, .int .i64 j), (63, .slice qp M qc)] 115 [] (W) a w | 3 => SR [(1, .pointer (some ⟨B, 0, none⟩)), (3, .slice (some ⟨r, 0, none⟩) N N), (5, .int .i64 i), (6, .slice qp M qc), (7, .int .i64 j), (62, .int .i64 j), (64, .int .i64 M)] 115 [] (W) a w | _ => SR [(1, .pointer (some ⟨B, 0, none⟩)), (3, .slice (some ⟨r, 0, none⟩) N N), (5, .int .i64 i), (6, .slice qp M qc), (7, .int .i64 j), (65, .bool (decide (j < M)))] 115 [] (W) a w) (show SR _ _ _ _ a W from h0) ⟨?_, ?_, ?_, ?_, trivial⟩ ?_
  · intro a w hI
    have hI : SR _ _ _ _ a w := hI
    have e7 := hI.g 7 rfl
    have hw : w = W := hI.wp
    subst hw
    go_simp
    exact hI.put (d := 62) (by decide) (by simp)
  · intro a w hI
    have hI : SR _ _ _ _ a w := hI
    have e6 := hI.g 6 rfl
    have hw : w = W := hI.wp
    subst hw
    go_simp
    exact hI.put (d := 63) (by decide) (by simp)
  · intro a w hI
    have hI : SR _ _ _ _ a w := hI
    have e63 := hI.g 63 rfl
    have hw : w = W := hI.wp
    subst hw
    go_simp
    exact hI.put (d := 64) (by decide) (by simp)
  · intro a w hI
    have hI : SR _ _ _ _ a w := hI
    have e62 := hI.g 62 rfl
    have e64 := hI.g 64 rfl
    have hw : w = W := hI.wp
    subst hw
    go_simp
    exact hI.put (d := 65) (by decide) (by simp)
  · intro a w hI
    have hI : SR _ _ _ _ a w := hI
    have hw : w = W := hI.wp
    subst hw
    exact hQ a hI
set_option maxRecDepth 100000 in
set_option maxHeartbeats 4000000 in
theorem n14 (n : Nat) (W : World) (B r N i M qc j : Nat) (qp : Option Addr) (hj : j < 9000000000) (Q : Exit → Act → World → Prop) (a : Act) (h0 : SR [(1, .pointer (some ⟨B, 0, none⟩)), (3, .slice (some ⟨r, 0, none⟩) N N), (5, .int .i64 i), (6, .slice qp M qc), (7, .int .i64 j)] 115 [] W a W)
    (hQ : ∀ a, SR [(1, .pointer (some ⟨B, 0, none⟩)), (3, .slice (some ⟨r, 0, none⟩) N N), (5, .int .i64 i), (6, .slice qp M qc), (7, .int .i64 ((j : Int) + 1))] 115 [] (W) a (W) → Q .normal a (W)) : (regOf 14 C5).wpIn Fence.wide n Try.prog Q a W := by
  simp only [regOf, C5, Try.f5, Option.getD, Nat.reduceBEq, Bool.false_eq_true, if_true, if_false]
  refine region_sq (fun k_ a w => match k_ with | 0 => SR [(1, .pointer (some ⟨B, 0, none⟩)), (3, .slice (some ⟨r, 0, none⟩) N N), (5, .int .i64 i), (6, .slice qp M qc), (7, .int .i64 j)] 115 [] (W) a w | 1 => SR [(1, .pointer (some ⟨B, 0, none⟩)), (3, .slice (some ⟨r, 0, none⟩) N N), (5, .int .i64 i), (6, .slice qp M qc), (66, .int .i64 j)] 115 [] (W) a w | 2 => SR [(1, .pointer (some ⟨B, 0, none⟩)), (3, .slice (some ⟨r, 0, none⟩) N N), (5, .int .i64 i), (6, .slice qp M qc), (67, .int .i64 ((j : Int) + 1))] 115 [] (W) a w | _ => SR [(1, .pointer (some ⟨B, 0, none⟩)), (3, .slice (some ⟨r, 0, none⟩) N N), (5, .int .i64 i), (6, .slice qp M qc), (7, .int .i64 ((j : Int) + 1))] 115 [] (W) a w) (show SR _ _ _ _ a W from h0) ⟨?_, ?_, ?_, trivial⟩ ?_
  · intro a w hI
    have hI : SR _ _ _ _ a w := hI
    have e7 := hI.g 7 rfl
    have hw : w = W := hI.wp
    subst hw
    go_simp
    exact hI.put (d := 66) (by decide) (by simp)
  · intro a w hI
    have hI : SR _ _ _ _ a w := hI
    have e66 := hI.g 66 rfl
    have hw : w = W := hI.wp
    subst hw
    have hw1 : IntKind.i64.wrap ((j : Int) + 1) = (j : Int) + 1 := IntWalk.i64_in _ (by omega)
    go_simp
    exact hI.put (d := 67) (by decide) (by simp)
  · intro a w hI
    have hI : SR _ _ _ _ a w := hI
    have e67 := hI.g 67 rfl
    have hw : w = W := hI.wp
    subst hw
    go_simp
    exact hI.put (d := 7) (by decide) (by simp)
  · intro a w hI
    have hI : SR _ _ _ _ a w := hI
    have hw : w = W := hI.wp
    subst hw
    exact hQ a hI
set_option maxRecDepth 100000 in
set_option maxHeartbeats 4000000 in
theorem n15 (n : Nat) (W : World) (B r N i M nb qc j t s2 l2 : Nat) (hj : j < M) (ht : t < N) (cn : W.cell? ⟨nb, j, none⟩ = some (.int .i64 t)) (lt0 : W.cell? ⟨r, t * 2, none⟩ = some (.int .u8 s2)) (lt1 : W.cell? ⟨r, t * 2 + 1, none⟩ = some (.int .u8 l2)) (Q : Exit → Act → World → Prop) (a : Act) (h0 : SR [(1, .pointer (some ⟨B, 0, none⟩)), (3, .slice (some ⟨r, 0, none⟩) N N), (5, .int .i64 i), (6, .slice (some ⟨nb, 0, none⟩) M qc), (7, .int .i64 j)] 115 [] W a W)
    (hQ : ∀ a, SR [(1, .pointer (some ⟨B, 0, none⟩)), (3, .slice (some ⟨r, 0, none⟩) N N), (5, .int .i64 i), (6, .slice (some ⟨nb, 0, none⟩) M qc), (7, .int .i64 j), (8, .pointer (some ⟨W.heap.size, 0, none⟩))] 115 [] (W.alloc (.cells #[.int .u8 s2, .int .u8 l2] 37)) a (W.alloc (.cells #[.int .u8 s2, .int .u8 l2] 37)) → Q .normal a (W.alloc (.cells #[.int .u8 s2, .int .u8 l2] 37))) : (regOf 15 C5).wpIn Fence.wide n Try.prog Q a W := by
  simp only [regOf, C5, Try.f5, Option.getD, Nat.reduceBEq, Bool.false_eq_true, if_true, if_false]
  refine region_sq (fun k_ a w => match k_ with | 0 => SR [(1, .pointer (some ⟨B, 0, none⟩)), (3, .slice (some ⟨r, 0, none⟩) N N), (5, .int .i64 i), (6, .slice (some ⟨nb, 0, none⟩) M qc), (7, .int .i64 j)] 115 [] (W) a w | 1 => SR [(1, .pointer (some ⟨B, 0, none⟩)), (3, .slice (some ⟨r, 0, none⟩) N N), (5, .int .i64 i), (6, .slice (some ⟨nb, 0, none⟩) M qc), (7, .int .i64 j), (68, .slice (some ⟨r, 0, none⟩) N N)] 115 [] (W) a w | 2 => SR [(1, .pointer (some ⟨B, 0, none⟩)), (3, .slice (some ⟨r, 0, none⟩) N N), (5, .int .i64 i), (6, .slice (some ⟨nb, 0, none⟩) M qc), (7, .int .i64 j), (68, .slice (some ⟨r, 0, none⟩) N N), (69, .slice (some ⟨nb, 0, none⟩) M qc)] 115 [] (W) a w | 3 => SR [(1, .pointer (some ⟨B, 0, none⟩)), (3, .slice (some ⟨r, 0, none⟩) N N), (5, .int .i64 i), (6, .slice (some ⟨nb, 0, none⟩) M qc), (7, .int .i64 j), (68, .slice (some ⟨r, 0, none⟩) N N), (69, .slice (some ⟨nb, 0, none⟩) M qc), (70, .int .i64 j)] 115 [] (W) a w | 4 => SR [(1, .pointer (some ⟨B, 0, none⟩)), (3, .slice (some ⟨r, 0, none⟩) N N), (5, .int .i64 i), (6, .slice (some ⟨nb, 0, none⟩) M qc), (7, .int .i64 j), (68, .slice (some ⟨r, 0, none⟩) N N), (71, .pointer (some ⟨nb, j, none⟩))] 115 [] (W) a w | 5 => SR [(1, .pointer (some ⟨B, 0, none⟩)), (3, .slice (some ⟨r, 0, none⟩) N N), (5, .int .i64 i), (6, .slice (some ⟨nb, 0, none⟩) M qc), (7, .int .i64 j), (68, .slice (some ⟨r, 0, none⟩) N N), (72, .int .i64 t)] 115 [] (W) a w | 6 => SR [(1, .pointer (some ⟨B, 0, none⟩)), (3, .slice (some ⟨r, 0, none⟩) N N), (5, .int .i64 i), (6, .slice (some ⟨nb, 0, none⟩) M qc), (7, .int .i64 j), (73, .pointer (some ⟨r, t * 2, none⟩))] 115 [] (W) a w | 7 => SR [(1, .pointer (some ⟨B, 0, none⟩)), (3, .slice (some ⟨r, 0, none⟩) N N), (5, .int .i64 i), (6, .slice (some ⟨nb, 0, none⟩) M qc), (7, .int .i64 j), (74, .agg #[.int .u8 s2, .int .u8 l2])] 115 [] (W) a w | 8 => SR [(1, .pointer (some ⟨B, 0, none⟩)), (3, .slice (some ⟨r, 0, none⟩) N N), (5, .int .i64 i), (6, .slice (some ⟨nb, 0, none⟩) M qc), (7, .int .i64 j), (74, .agg #[.int .u8 s2, .int .u8 l2]), (8, .pointer (some ⟨W.heap.size, 0, none⟩))] 115 [] (W.alloc (.cells #[.int .u8 0, .int .u8 0] 37)) a w | _ => SR [(1, .pointer (some ⟨B, 0, none⟩)), (3, .slice (some ⟨r, 0, none⟩) N N), (5, .int .i64 i), (6, .slice (some ⟨nb, 0, none⟩) M qc), (7, .int .i64 j), (8, .pointer (some ⟨W.heap.size, 0, none⟩))] 115 [] (W.alloc (.cells #[.int .u8 s2, .int .u8 l2] 37)) a w) (show SR _ _ _ _ a W from h0) ⟨?_, ?_, ?_, ?_, ?_, ?_, ?_, ?_, ?_, trivial⟩ ?_
  · intro a w hI
    have hI : SR _ _ _ _ a w := hI
    have e3 := hI.g 3 rfl
    have hw : w = W := hI.wp
    subst hw
    go_simp
    exact hI.put (d := 68) (by decide) (by simp)
  · intro a w hI
    have hI : SR _ _ _ _ a w := hI
    have e6 := hI.g 6 rfl
    have hw : w = W := hI.wp
    subst hw
    go_simp
    exact hI.put (d := 69) (by decide) (by simp)
  · intro a w hI
    have hI : SR _ _ _ _ a w := hI
    have e7 := hI.g 7 rfl
    have hw : w = W := hI.wp
    subst hw
    go_simp
    exact hI.put (d := 70) (by decide) (by simp)
  · intro a w hI
    have hI : SR _ _ _ _ a w := hI
    have e69 := hI.g 69 rfl
    have e70 := hI.g 70 rfl
    have hw : w = W := hI.wp
    subst hw
    have q1_3 : (0 : Int) ≤ j := by omega
    have q2_3 : (j : Int) < M := by omega
    go_simp
    exact hI.put (d := 71) (by decide) (by simp)
  · intro a w hI
    have hI : SR _ _ _ _ a w := hI
    have e71 := hI.g 71 rfl
    have hw : w = W := hI.wp
    subst hw
    go_simp
    exact hI.put (d := 72) (by decide) (by simp)
  · intro a w hI
    have hI : SR _ _ _ _ a w := hI
    have e68 := hI.g 68 rfl
    have e72 := hI.g 72 rfl
    have hw : w = W := hI.wp
    subst hw
    have q1_5 : (0 : Int) ≤ t := by omega
    have q2_5 : (t : Int) < N := by omega
    go_simp
    exact hI.put (d := 73) (by decide) (by simp)
  · intro a w hI
    have hI : SR _ _ _ _ a w := hI
    have e73 := hI.g 73 rfl
    have hw : w = W := hI.wp
    subst hw
    go_simp
    exact hI.put (d := 74) (by decide) (by simp)
  · intro a w hI
    have hI : SR _ _ _ _ a w := hI
    have hw : w = W := hI.wp
    subst hw
    go_simp
    exact hI.put (d := 8) (by decide) (by simp)
  · intro a w hI
    have hI : SR _ _ _ _ a w := hI
    have e8 := hI.g 8 rfl
    have e74 := hI.g 74 rfl
    obtain rfl := hI.wp
    have hn0 := cell2_new W 37 (.int .u8 0) (.int .u8 0)
    obtain ⟨hn1, hn2, hn3, hn5⟩ := hn0
    have hn4 := alloc_set2 W 37 (.int .u8 0) (.int .u8 0) (.int .u8 s2) (.int .u8 l2)
    go_simp
    exact hI.none.sub (by intro p hp; simp only [List.mem_cons, List.not_mem_nil, or_false] at hp ⊢; rcases hp with h | h | h | h | h | h <;> simp [h])
  · intro a w hI
    have hI : SR _ _ _ _ a w := hI
    obtain rfl := hI.wp
    exact hQ a hI
set_option maxRecDepth 100000 in
set_option maxHeartbeats 4000000 in
theorem n16f (n : Nat) {G : World → Prop} (hS : Stable G) (B r N i M nb qc j t sB g off cap k v k2 v2 s l s2 l2 : Nat) (hi : i < N) (hj : j < M) (ht : t < N) (hs : s ≤ 15) (hl : l ≤ 15) (c3 : ∀ w, G w → w.cell? ⟨B, 3, none⟩ = some (.slice (some ⟨g, off, none⟩) N cap)) (ca0 : ∀ w, G w → w.cell? ⟨g, off + i * 2, none⟩ = some (.int .u8 k)) (ca1 : ∀ w, G w → w.cell? ⟨g, off + i * 2 + 1, none⟩ = some (.int .u8 v)) (ho : ∀ m w, G w → CallsIn Fence.wide m Try.prog 17 #[.agg #[.int .u8 k, .int .u8 v]] w fun e w' => e = .returned (.bool false) ∧ Below w.heap.size w w') (Q : Exit → Act → World → Prop) (a : Act) (w : World) (h0 : SG [(1, .pointer (some ⟨B, 0, none⟩)), (3, .slice (some ⟨r, 0, none⟩) N N), (5, .int .i64 i), (6, .slice (some ⟨nb, 0, none⟩) M qc), (7, .int .i64 j), (8, .pointer (some ⟨sB, 0, none⟩))] 115 G a w)
    (hQ : ∀ a w, SG [(1, .pointer (some ⟨B, 0, none⟩)), (3, .slice (some ⟨r, 0, none⟩) N N), (5, .int .i64 i), (6, .slice (some ⟨nb, 0, none⟩) M qc), (7, .int .i64 j), (113, .bool false)] 115 G a w → Q .normal a w) : (regOf 16 C5).wpIn Fence.wide n Try.prog Q a w := by
  have hmix : Try.prog.follows .mixedOrders = true := by kernel_rfl
  simp only [regOf, C5, Try.f5, Option.getD, Nat.reduceBEq, Bool.false_eq_true, if_true, if_false]
  refine region_inv (RI [(1, .pointer (some ⟨B, 0, none⟩)), (3, .slice (some ⟨r, 0, none⟩) N N), (5, .int .i64 i), (6, .slice (some ⟨nb, 0, none⟩) M qc), (7, .int .i64 j), (8, .pointer (some ⟨sB, 0, none⟩))]
    [(0, 75, .pointer (some ⟨B, 3, none⟩)), (1, 76, .slice (some ⟨g, off, none⟩) N cap), (2, 77, .int .i64 i), (3, 78, .pointer (some ⟨g, off + i * 2, none⟩)), (4, 79, .agg #[.int .u8 k, .int .u8 v]), (5, 80, .bool false), (6, 81, .bool false), (16, 91, .bool false), (17, 92, .bool false), (27, 102, undef), (38, 113, .bool false)] 115 [] (fun _ w => G w)) hmix (by kernel_rfl) ⟨h0.size, h0.defers, h0.kn, by simp, hS _ _ h0.wp (Below.refl _ _).drew⟩ ⟨?_, ?_, ?_, ?_, ?_, ?_, ?_, ?_, ?_, ?_, ?_, ?_, ?_, ?_, ?_, ?_, ?_, ?_, ?_, ?_, ?_, ?_, ?_, ?_, ?_, ?_, ?_, ?_, ?_, ?_, ?_, ?_, ?_, ?_, ?_, ?_, ?_, ?_, ?_, trivial⟩ ?_
  · intro Xs a w hX hdep hC hI
    have e1 := hI.gi 1 rfl
    go_simp
    exact hI.put' (k := 0) (d := 75) (by decide) (by simp) (by simp) (by simp) hI.wp
  · intro Xs a w hX hdep hC hI
    have x0 : Xs 0 = true := hdep ⟨0, .data⟩ (by simp) rfl
    have e75 := hI.gk 0 rfl x0
    have cc0 := c3 w hI.wp
    go_simp
    exact hI.put' (k := 1) (d := 76) (by decide) (by simp) (by simp) (by simp) hI.wp
  · intro Xs a w hX hdep hC hI
    have e5 := hI.gi 5 rfl
    go_simp
    exact hI.put' (k := 2) (d := 77) (by decide) (by simp) (by simp) (by simp) hI.wp
  · intro Xs a w hX hdep hC hI
    have x1 : Xs 1 = true := hdep ⟨1, .data⟩ (by simp) rfl
    have e76 := hI.gk 1 rfl x1
    have x2 : Xs 2 = true := hdep ⟨2, .data⟩ (by simp) rfl
    have e77 := hI.gk 2 rfl x2
    have q1_3 : (0 : Int) ≤ i := by omega
    have q2_3 : (i : Int) < N := by omega
    go_simp
    exact hI.put' (k := 3) (d := 78) (by decide) (by simp) (by simp) (by simp) hI.wp
  · intro Xs a w hX hdep hC hI
    have x3 : Xs 3 = true := hdep ⟨3, .data⟩ (by simp) rfl
    have e78 := hI.gk 3 rfl x3
    have cc0 := ca0 w hI.wp
    have cc1 := ca1 w hI.wp
    go_simp
    exact hI.put' (k := 4) (d := 79) (by decide) (by simp) (by simp) (by simp) hI.wp
  · intro Xs a w hX hdep hC hI
    have x4 : Xs 4 = true := hdep ⟨4, .data⟩ (by simp) rfl
    have e79 := hI.gk 4 rfl x4
    go_simp
    refine ⟨trivial, fun h => (by cases h), (ho (n - 1) w hI.wp).mono ?_⟩
    rintro e w' ⟨rfl, hb2⟩
    exact hI.put' (k := 5) (d := 80) (by decide) (by simp) (by simp) (by simp) (hS _ _ hI.wp hb2)
  · intro Xs a w hX hdep hC hI
    have x5 : Xs 5 = true := hdep ⟨5, .data⟩ (by simp) rfl
    have e80 := hI.gk 5 rfl x5
    go_simp
    exact hI.put' (k := 6) (d := 81) (by decide) (by simp) (by simp) (by simp) hI.wp
  · intro Xs a w hX hdep hC hI
    have x6 : Xs 6 = true := hdep ⟨6, .guard⟩ (by simp) rfl
    have e81 := hI.gk 6 rfl x6
    have f81 := slot_bool e81
    go_simp
    exact hI.put' (k := 7) (d := 82) (by decide) (by simp) (by simp) (by simp) hI.wp
  · intro Xs a w hX hdep hC hI
    have x6 : Xs 6 = true := hdep ⟨6, .guard⟩ (by simp) rfl
    have e81 := hI.gk 6 rfl x6
    have f81 := slot_bool e81
    go_simp
    exact hI.put' (k := 8) (d := 83) (by decide) (by simp) (by simp) (by simp) hI.wp
  · intro Xs a w hX hdep hC hI
    have x6 : Xs 6 = true := hdep ⟨6, .guard⟩ (by simp) rfl
    have e81 := hI.gk 6 rfl x6
    have f81 := slot_bool e81
    go_simp
    exact hI.put' (k := 9) (d := 84) (by decide) (by simp) (by simp) (by simp) hI.wp
  · intro Xs a w hX hdep hC hI
    have x6 : Xs 6 = true := hdep ⟨6, .guard⟩ (by simp) rfl
    have e81 := hI.gk 6 rfl x6
    have f81 := slot_bool e81
    go_simp
    exact hI.put' (k := 10) (d := 85) (by decide) (by simp) (by simp) (by simp) hI.wp
  · intro Xs a w hX hdep hC hI
    have x6 : Xs 6 = true := hdep ⟨6, .guard⟩ (by simp) rfl
    have e81 := hI.gk 6 rfl x6
    have f81 := slot_bool e81
    go_simp
    exact hI.put' (k := 11) (d := 86) (by decide) (by simp) (by simp) (by simp) hI.wp
  · intro Xs a w hX hdep hC hI
    have x6 : Xs 6 = true := hdep ⟨6, .guard⟩ (by simp) rfl
    have e81 := hI.gk 6 rfl x6
    have f81 := slot_bool e81
    go_simp
    exact hI.put' (k := 12) (d := 87) (by decide) (by simp) (by simp) (by simp) hI.wp
  · intro Xs a w hX hdep hC hI
    have x6 : Xs 6 = true := hdep ⟨6, .guard⟩ (by simp) rfl
    have e81 := hI.gk 6 rfl x6
    have f81 := slot_bool e81
    go_simp
    exact hI.put' (k := 13) (d := 88) (by decide) (by simp) (by simp) (by simp) hI.wp
  · intro Xs a w hX hdep hC hI
    have x6 : Xs 6 = true := hdep ⟨6, .guard⟩ (by simp) rfl
    have e81 := hI.gk 6 rfl x6
    have f81 := slot_bool e81
    go_simp
    exact hI.put' (k := 14) (d := 89) (by decide) (by simp) (by simp) (by simp) hI.wp
  · intro Xs a w hX hdep hC hI
    have x6 : Xs 6 = true := hdep ⟨6, .chain⟩ (by simp) rfl
    have e81 := hI.gk 6 rfl x6
    have f81 := slot_bool e81
    go_simp
    refine ⟨trivial, ?_⟩
    exact hI.put' (k := 15) (d := 90) (by decide) (by simp) (by simp) (by simp) hI.wp
  · intro Xs a w hX hdep hC hI
    have x6 : Xs 6 = true := hdep ⟨6, .data⟩ (by simp) rfl
    have e81 := hI.gk 6 rfl x6
    go_simp
    exact hI.put' (k := 16) (d := 91) (by decide) (by simp) (by simp) (by simp) hI.wp
  · intro Xs a w hX hdep hC hI
    have x16 : Xs 16 = true := hdep ⟨16, .data⟩ (by simp) rfl
    have e91 := hI.gk 16 rfl x16
    go_simp
    exact hI.put' (k := 17) (d := 92) (by decide) (by simp) (by simp) (by simp) hI.wp
  · intro Xs a w hX hdep hC hI
    have x17 : Xs 17 = true := hdep ⟨17, .guard⟩ (by simp) rfl
    have e92 := hI.gk 17 rfl x17
    have f92 := slot_bool e92
    go_simp
    exact hI.put' (k := 18) (d := 93) (by decide) (by simp) (by simp) (by simp) hI.wp
  · intro Xs a w hX hdep hC hI
    have x17 : Xs 17 = true := hdep ⟨17, .guard⟩ (by simp) rfl
    have e92 := hI.gk 17 rfl x17
    have f92 := slot_bool e92
    go_simp
    exact hI.put' (k := 19) (d := 94) (by decide) (by simp) (by simp) (by simp) hI.wp
  · intro Xs a w hX hdep hC hI
    have x17 : Xs 17 = true := hdep ⟨17, .guard⟩ (by simp) rfl
    have e92 := hI.gk 17 rfl x17
    have f92 := slot_bool e92
    go_simp
    exact hI.put' (k := 20) (d := 95) (by decide) (by simp) (by simp) (by simp) hI.wp
  · intro Xs a w hX hdep hC hI
    have x17 : Xs 17 = true := hdep ⟨17, .guard⟩ (by simp) rfl
    have e92 := hI.gk 17 rfl x17
    have f92 := slot_bool e92
    go_simp
    exact hI.put' (k := 21) (d := 96) (by decide) (by simp) (by simp) (by simp) hI.wp
  · intro Xs a w hX hdep hC hI
    have x17 : Xs 17 = true := hdep ⟨17, .guard⟩ (by simp) rfl
    have e92 := hI.gk 17 rfl x17
    have f92 := slot_bool e92
    go_simp
    exact hI.put' (k := 22) (d := 97) (by decide) (by simp) (by simp) (by simp) hI.wp
  · intro Xs a w hX hdep hC hI
    have x17 : Xs 17 = true := hdep ⟨17, .guard⟩ (by simp) rfl
    have e92 := hI.gk 17 rfl x17
    have f92 := slot_bool e92
    go_simp
    exact hI.put' (k := 23) (d := 98) (by decide) (by simp) (by simp) (by simp) hI.wp
  · intro Xs a w hX hdep hC hI
    have x17 : Xs 17 = true := hdep ⟨17, .guard⟩ (by simp) rfl
    have e92 := hI.gk 17 rfl x17
    have f92 := slot_bool e92
    go_simp
    exact hI.put' (k := 24) (d := 99) (by decide) (by simp) (by simp) (by simp) hI.wp
  · intro Xs a w hX hdep hC hI
    have x17 : Xs 17 = true := hdep ⟨17, .guard⟩ (by simp) rfl
    have e92 := hI.gk 17 rfl x17
    have f92 := slot_bool e92
    go_simp
    exact hI.put' (k := 25) (d := 100) (by decide) (by simp) (by simp) (by simp) hI.wp
  · intro Xs a w hX hdep hC hI
    have x17 : Xs 17 = true := hdep ⟨17, .guard⟩ (by simp) rfl
    have e92 := hI.gk 17 rfl x17
    have f92 := slot_bool e92
    go_simp
    exact hI.put' (k := 26) (d := 101) (by decide) (by simp) (by simp) (by simp) hI.wp
  · intro Xs a w hX hdep hC hI
    have x17 : Xs 17 = true := hdep ⟨17, .chain⟩ (by simp) rfl
    have e92 := hI.gk 17 rfl x17
    have f92 := slot_bool e92
    go_simp
    exact hI.put' (k := 27) (d := 102) (by decide) (by simp) (by simp) (by simp) hI.wp
  · intro Xs a w hX hdep hC hI
    have x27 : Xs 27 = true := hdep ⟨27, .guard⟩ (by simp) rfl
    have e102 := hI.gk 27 rfl x27
    have f102 := slot_undef e102 (by rw [hI.size]; decide)
    go_simp
    exact hI.put' (k := 28) (d := 103) (by decide) (by simp) (by simp) (by simp) hI.wp
  · intro Xs a w hX hdep hC hI
    have x27 : Xs 27 = true := hdep ⟨27, .guard⟩ (by simp) rfl
    have e102 := hI.gk 27 rfl x27
    have f102 := slot_undef e102 (by rw [hI.size]; decide)
    go_simp
    exact hI.put' (k := 29) (d := 104) (by decide) (by simp) (by simp) (by simp) hI.wp
  · intro Xs a w hX hdep hC hI
    have x27 : Xs 27 = true := hdep ⟨27, .guard⟩ (by simp) rfl
    have e102 := hI.gk 27 rfl x27
    have f102 := slot_undef e102 (by rw [hI.size]; decide)
    go_simp
    exact hI.put' (k := 30) (d := 105) (by decide) (by simp) (by simp) (by simp) hI.wp
  · intro Xs a w hX hdep hC hI
    have x27 : Xs 27 = true := hdep ⟨27, .guard⟩ (by simp) rfl
    have e102 := hI.gk 27 rfl x27
    have f102 := slot_undef e102 (by rw [hI.size]; decide)
    go_simp
    exact hI.put' (k := 31) (d := 106) (by decide) (by simp) (by simp) (by simp) hI.wp
  · intro Xs a w hX hdep hC hI
    have x27 : Xs 27 = true := hdep ⟨27, .guard⟩ (by simp) rfl
    have e102 := hI.gk 27 rfl x27
    have f102 := slot_undef e102 (by rw [hI.size]; decide)
    go_simp
    exact hI.put' (k := 32) (d := 107) (by decide) (by simp) (by simp) (by simp) hI.wp
  · intro Xs a w hX hdep hC hI
    have x27 : Xs 27 = true := hdep ⟨27, .guard⟩ (by simp) rfl
    have e102 := hI.gk 27 rfl x27
    have f102 := slot_undef e102 (by rw [hI.size]; decide)
    go_simp
    exact hI.put' (k := 33) (d := 108) (by decide) (by simp) (by simp) (by simp) hI.wp
  · intro Xs a w hX hdep hC hI
    have x27 : Xs 27 = true := hdep ⟨27, .guard⟩ (by simp) rfl
    have e102 := hI.gk 27 rfl x27
    have f102 := slot_undef e102 (by rw [hI.size]; decide)
    go_simp
    exact hI.put' (k := 34) (d := 109) (by decide) (by simp) (by simp) (by simp) hI.wp
  · intro Xs a w hX hdep hC hI
    have x27 : Xs 27 = true := hdep ⟨27, .guard⟩ (by simp) rfl
    have e102 := hI.gk 27 rfl x27
    have f102 := slot_undef e102 (by rw [hI.size]; decide)
    go_simp
    exact hI.put' (k := 35) (d := 110) (by decide) (by simp) (by simp) (by simp) hI.wp
  · intro Xs a w hX hdep hC hI
    have x27 : Xs 27 = true := hdep ⟨27, .guard⟩ (by simp) rfl
    have e102 := hI.gk 27 rfl x27
    have f102 := slot_undef e102 (by rw [hI.size]; decide)
    go_simp
    exact hI.put' (k := 36) (d := 111) (by decide) (by simp) (by simp) (by simp) hI.wp
  · intro Xs a w hX hdep hC hI
    have x17 : Xs 17 = true := hdep ⟨17, .guard⟩ (by simp) rfl
    have e92 := hI.gk 17 rfl x17
    have f92 := slot_bool e92
    go_simp
    exact hI.put' (k := 37) (d := 112) (by decide) (by simp) (by simp) (by simp) hI.wp
  · intro Xs a w hX hdep hC hI
    have x17 : Xs 17 = true := hdep ⟨17, .data⟩ (by simp) rfl
    have e92 := hI.gk 17 rfl x17
    go_simp
    exact hI.put' (k := 38) (d := 113) (by decide) (by simp) (by simp) (by simp) hI.wp
  · intro Xs a w hX hI
    refine hQ a w ⟨hI.size, hI.defers, ?_, hI.wp⟩
    simp only [List.mem_cons, List.not_mem_nil, or_false, forall_eq_or_imp, forall_eq]
    exact ⟨hI.gi 1 rfl, hI.gi 3 rfl, hI.gi 5 rfl, hI.gi 6 rfl, hI.gi 7 rfl, hI.gk 38 rfl (hX 38 (by simp))⟩
set_option maxRecDepth 100000 in
set_option maxHeartbeats 4000000 in
theorem n16g (n : Nat) {G : World → Prop} (hS : Stable G) (B r N i M nb qc j t sB g off cap k v k2 v2 s l s2 l2 : Nat) (hi : i < N) (hj : j < M) (ht : t < N) (hs : s ≤ 15) (hl : l ≤ 15) (c3 : ∀ w, G w → w.cell? ⟨B, 3, none⟩ = some (.slice (some ⟨g, off, none⟩) N cap)) (ca0 : ∀ w, G w → w.cell? ⟨g, off + i * 2, none⟩ = some (.int .u8 k)) (ca1 : ∀ w, G w → w.cell? ⟨g, off + i * 2 + 1, none⟩ = some (.int .u8 v)) (cn : ∀ w, G w → w.cell? ⟨nb, j, none⟩ = some (.int .i64 t)) (ct0 : ∀ w, G w → w.cell? ⟨g, off + t * 2, none⟩ = some (.int .u8 k2)) (ct1 : ∀ w, G w → w.cell? ⟨g, off + t * 2 + 1, none⟩ = some (.int .u8 v2)) (ho : ∀ m w, G w → CallsIn Fence.wide m Try.prog 17 #[.agg #[.int .u8 k, .int .u8 v]] w fun e w' => e = .returned (.bool true) ∧ Below w.heap.size w w') (ho2 : ∀ m w, G w → CallsIn Fence.wide m Try.prog 17 #[.agg #[.int .u8 k2, .int .u8 v2]] w fun e w' => e = .returned (.bool false) ∧ Below w.heap.size w w') (Q : Exit → Act → World → Prop) (a : Act) (w : World) (h0 : SG [(1, .pointer (some ⟨B, 0, none⟩)), (3, .slice (some ⟨r, 0, none⟩) N N), (5, .int .i64 i), (6, .slice (some ⟨nb, 0, none⟩) M qc), (7, .int .i64 j), (8, .pointer (some ⟨sB, 0, none⟩))] 115 G a w)
    (hQ : ∀ a w, SG [(1, .pointer (some ⟨B, 0, none⟩)), (3, .slice (some ⟨r, 0, none⟩) N N), (5, .int .i64 i), (6, .slice (some ⟨nb, 0, none⟩) M qc), (7, .int .i64 j), (113, .bool false)] 115 G a w → Q .normal a w) : (regOf 16 C5).wpIn Fence.wide n Try.prog Q a w := by
  have hmix : Try.prog.follows .mixedOrders = true := by kernel_rfl
  simp only [regOf, C5, Try.f5, Option.getD, Nat.reduceBEq, Bool.false_eq_true, if_true, if_false]
  refine region_inv (RI [(1, .pointer (some ⟨B, 0, none⟩)), (3, .slice (some ⟨r, 0, none⟩) N N), (5, .int .i64 i), (6, .slice (some ⟨nb, 0, none⟩) M qc), (7, .int .i64 j), (8, .pointer (some ⟨sB, 0, none⟩))]
    [(0, 75, .pointer (some ⟨B, 3, none⟩)), (1, 76, .slice (some ⟨g, off, none⟩) N cap), (2, 77, .int .i64 i), (3, 78, .pointer (some ⟨g, off + i * 2, none⟩)), (4, 79, .agg #[.int .u8 k, .int .u8 v]), (5, 80, .bool true), (6, 81, .bool true), (7, 82, .pointer (some ⟨B, 3, none⟩)), (8, 83, .slice (some ⟨g, off, none⟩) N cap), (9, 84, .slice (some ⟨nb, 0, none⟩) M qc), (10, 85, .int .i64 j), (11, 86, .pointer (some ⟨nb, j, none⟩)), (12, 87, .int .i64 t), (13, 88, .pointer (some ⟨g, off + t * 2, none⟩)), (14, 89, .agg #[.int .u8 k2, .int .u8 v2]), (15, 90, .bool false), (16, 91, .bool false), (17, 92, .bool false), (27, 102, undef), (38, 113, .bool false)] 115 [] (fun _ w => G w)) hmix (by kernel_rfl) ⟨h0.size, h0.defers, h0.kn, by simp, hS _ _ h0.wp (Below.refl _ _).drew⟩ ⟨?_, ?_, ?_, ?_, ?_, ?_, ?_, ?_, ?_, ?_, ?_, ?_, ?_, ?_, ?_, ?_, ?_, ?_, ?_, ?_, ?_, ?_, ?_, ?_, ?_, ?_, ?_, ?_, ?_, ?_, ?_, ?_, ?_, ?_, ?_, ?_, ?_, ?_, ?_, trivial⟩ ?_
  · intro Xs a w hX hdep hC hI
    have e1 := hI.gi 1 rfl
    go_simp
    exact hI.put' (k := 0) (d := 75) (by decide) (by simp) (by simp) (by simp) hI.wp
  · intro Xs a w hX hdep hC hI
    have x0 : Xs 0 = true := hdep ⟨0, .data⟩ (by simp) rfl
    have e75 := hI.gk 0 rfl x0
    have cc0 := c3 w hI.wp
    go_simp
    exact hI.put' (k := 1) (d := 76) (by decide) (by simp) (by simp) (by simp) hI.wp
  · intro Xs a w hX hdep hC hI
    have e5 := hI.gi 5 rfl
    go_simp
    exact hI.put' (k := 2) (d := 77) (by decide) (by simp) (by simp) (by simp) hI.wp
  · intro Xs a w hX hdep hC hI
    have x1 : Xs 1 = true := hdep ⟨1, .data⟩ (by simp) rfl
    have e76 := hI.gk 1 rfl x1
    have x2 : Xs 2 = true := hdep ⟨2, .data⟩ (by simp) rfl
    have e77 := hI.gk 2 rfl x2
    have q1_3 : (0 : Int) ≤ i := by omega
    have q2_3 : (i : Int) < N := by omega
    go_simp
    exact hI.put' (k := 3) (d := 78) (by decide) (by simp) (by simp) (by simp) hI.wp
  · intro Xs a w hX hdep hC hI
    have x3 : Xs 3 = true := hdep ⟨3, .data⟩ (by simp) rfl
    have e78 := hI.gk 3 rfl x3
    have cc0 := ca0 w hI.wp
    have cc1 := ca1 w hI.wp
    go_simp
    exact hI.put' (k := 4) (d := 79) (by decide) (by simp) (by simp) (by simp) hI.wp
  · intro Xs a w hX hdep hC hI
    have x4 : Xs 4 = true := hdep ⟨4, .data⟩ (by simp) rfl
    have e79 := hI.gk 4 rfl x4
    go_simp
    refine ⟨trivial, fun h => (by cases h), (ho (n - 1) w hI.wp).mono ?_⟩
    rintro e w' ⟨rfl, hb2⟩
    exact hI.put' (k := 5) (d := 80) (by decide) (by simp) (by simp) (by simp) (hS _ _ hI.wp hb2)
  · intro Xs a w hX hdep hC hI
    have x5 : Xs 5 = true := hdep ⟨5, .data⟩ (by simp) rfl
    have e80 := hI.gk 5 rfl x5
    go_simp
    exact hI.put' (k := 6) (d := 81) (by decide) (by simp) (by simp) (by simp) hI.wp
  · intro Xs a w hX hdep hC hI
    have e1 := hI.gi 1 rfl
    have x6 : Xs 6 = true := hdep ⟨6, .guard⟩ (by simp) rfl
    have e81 := hI.gk 6 rfl x6
    have f81 := slot_bool e81
    go_simp
    exact hI.put' (k := 7) (d := 82) (by decide) (by simp) (by simp) (by simp) hI.wp
  · intro Xs a w hX hdep hC hI
    have x7 : Xs 7 = true := hdep ⟨7, .data⟩ (by simp) rfl
    have e82 := hI.gk 7 rfl x7
    have x6 : Xs 6 = true := hdep ⟨6, .guard⟩ (by simp) rfl
    have e81 := hI.gk 6 rfl x6
    have f81 := slot_bool e81
    have cc0 := c3 w hI.wp
    go_simp
    exact hI.put' (k := 8) (d := 83) (by decide) (by simp) (by simp) (by simp) hI.wp
  · intro Xs a w hX hdep hC hI
    have e6 := hI.gi 6 rfl
    have x6 : Xs 6 = true := hdep ⟨6, .guard⟩ (by simp) rfl
    have e81 := hI.gk 6 rfl x6
    have f81 := slot_bool e81
    go_simp
    exact hI.put' (k := 9) (d := 84) (by decide) (by simp) (by simp) (by simp) hI.wp
  · intro Xs a w hX hdep hC hI
    have e7 := hI.gi 7 rfl
    have x6 : Xs 6 = true := hdep ⟨6, .guard⟩ (by simp) rfl
    have e81 := hI.gk 6 rfl x6
    have f81 := slot_bool e81
    go_simp
    exact hI.put' (k := 10) (d := 85) (by decide) (by simp) (by simp) (by simp) hI.wp
  · intro Xs a w hX hdep hC hI
    have x9 : Xs 9 = true := hdep ⟨9, .data⟩ (by simp) rfl
    have e84 := hI.gk 9 rfl x9
    have x10 : Xs 10 = true := hdep ⟨10, .data⟩ (by simp) rfl
    have e85 := hI.gk 10 rfl x10
    have x6 : Xs 6 = true := hdep ⟨6, .guard⟩ (by simp) rfl
    have e81 := hI.gk 6 rfl x6
    have f81 := slot_bool e81
    have q1_11 : (0 : Int) ≤ j := by omega
    have q2_11 : (j : Int) < M := by omega
    go_simp
    exact hI.put' (k := 11) (d := 86) (by decide) (by simp) (by simp) (by simp) hI.wp
  · intro Xs a w hX hdep hC hI
    have x11 : Xs 11 = true := hdep ⟨11, .data⟩ (by simp) rfl
    have e86 := hI.gk 11 rfl x11
    have x6 : Xs 6 = true := hdep ⟨6, .guard⟩ (by simp) rfl
    have e81 := hI.gk 6 rfl x6
    have f81 := slot_bool e81
    have cc0 := cn w hI.wp
    go_simp
    exact hI.put' (k := 12) (d := 87) (by decide) (by simp) (by simp) (by simp) hI.wp
  · intro Xs a w hX hdep hC hI
    have x8 : Xs 8 = true := hdep ⟨8, .data⟩ (by simp) rfl
    have e83 := hI.gk 8 rfl x8
    have x12 : Xs 12 = true := hdep ⟨12, .data⟩ (by simp) rfl
    have e87 := hI.gk 12 rfl x12
    have x6 : Xs 6 = true := hdep ⟨6, .guard⟩ (by simp) rfl
    have e81 := hI.gk 6 rfl x6
    have f81 := slot_bool e81
    have q1_13 : (0 : Int) ≤ t := by omega
    have q2_13 : (t : Int) < N := by omega
    go_simp
    exact hI.put' (k := 13) (d := 88) (by decide) (by simp) (by simp) (by simp) hI.wp
  · intro Xs a w hX hdep hC hI
    have x13 : Xs 13 = true := hdep ⟨13, .data⟩ (by simp) rfl
    have e88 := hI.gk 13 rfl x13
    have x6 : Xs 6 = true := hdep ⟨6, .guard⟩ (by simp) rfl
    have e81 := hI.gk 6 rfl x6
    have f81 := slot_bool e81
    have cc0 := ct0 w hI.wp
    have cc1 := ct1 w hI.wp
    go_simp
    exact hI.put' (k := 14) (d := 89) (by decide) (by simp) (by simp) (by simp) hI.wp
  · intro Xs a w hX hdep hC hI
    have x14 : Xs 14 = true := hdep ⟨14, .data⟩ (by simp) rfl
    have e89 := hI.gk 14 rfl x14
    have x6 : Xs 6 = true := hdep ⟨6, .chain⟩ (by simp) rfl
    have e81 := hI.gk 6 rfl x6
    have f81 := slot_bool e81
    go_simp
    refine ⟨trivial, fun h => (by cases h), (ho2 (n - 1) w hI.wp).mono ?_⟩
    rintro e w' ⟨rfl, hb2⟩
    exact hI.put' (k := 15) (d := 90) (by decide) (by simp) (by simp) (by simp) (hS _ _ hI.wp hb2)
  · intro Xs a w hX hdep hC hI
    have x6 : Xs 6 = true := hdep ⟨6, .data⟩ (by simp) rfl
    have e81 := hI.gk 6 rfl x6
    have x15 : Xs 15 = true := hdep ⟨15, .data⟩ (by simp) rfl
    have e90 := hI.gk 15 rfl x15
    go_simp
    exact hI.put' (k := 16) (d := 91) (by decide) (by simp) (by simp) (by simp) hI.wp
  · intro Xs a w hX hdep hC hI
    have x16 : Xs 16 = true := hdep ⟨16, .data⟩ (by simp) rfl
    have e91 := hI.gk 16 rfl x16
    go_simp
    exact hI.put' (k := 17) (d := 92) (by decide) (by simp) (by simp) (by simp) hI.wp
  · intro Xs a w hX hdep hC hI
    have x17 : Xs 17 = true := hdep ⟨17, .guard⟩ (by simp) rfl
    have e92 := hI.gk 17 rfl x17
    have f92 := slot_bool e92
    go_simp
    exact hI.put' (k := 18) (d := 93) (by decide) (by simp) (by simp) (by simp) hI.wp
  · intro Xs a w hX hdep hC hI
    have x17 : Xs 17 = true := hdep ⟨17, .guard⟩ (by simp) rfl
    have e92 := hI.gk 17 rfl x17
    have f92 := slot_bool e92
    go_simp
    exact hI.put' (k := 19) (d := 94) (by decide) (by simp) (by simp) (by simp) hI.wp
  · intro Xs a w hX hdep hC hI
    have x17 : Xs 17 = true := hdep ⟨17, .guard⟩ (by simp) rfl
    have e92 := hI.gk 17 rfl x17
    have f92 := slot_bool e92
    go_simp
    exact hI.put' (k := 20) (d := 95) (by decide) (by simp) (by simp) (by simp) hI.wp
  · intro Xs a w hX hdep hC hI
    have x17 : Xs 17 = true := hdep ⟨17, .guard⟩ (by simp) rfl
    have e92 := hI.gk 17 rfl x17
    have f92 := slot_bool e92
    go_simp
    exact hI.put' (k := 21) (d := 96) (by decide) (by simp) (by simp) (by simp) hI.wp
  · intro Xs a w hX hdep hC hI
    have x17 : Xs 17 = true := hdep ⟨17, .guard⟩ (by simp) rfl
    have e92 := hI.gk 17 rfl x17
    have f92 := slot_bool e92
    go_simp
    exact hI.put' (k := 22) (d := 97) (by decide) (by simp) (by simp) (by simp) hI.wp
  · intro Xs a w hX hdep hC hI
    have x17 : Xs 17 = true := hdep ⟨17, .guard⟩ (by simp) rfl
    have e92 := hI.gk 17 rfl x17
    have f92 := slot_bool e92
    go_simp
    exact hI.put' (k := 23) (d := 98) (by decide) (by simp) (by simp) (by simp) hI.wp
  · intro Xs a w hX hdep hC hI
    have x17 : Xs 17 = true := hdep ⟨17, .guard⟩ (by simp) rfl
    have e92 := hI.gk 17 rfl x17
    have f92 := slot_bool e92
    go_simp
    exact hI.put' (k := 24) (d := 99) (by decide) (by simp) (by simp) (by simp) hI.wp
  · intro Xs a w hX hdep hC hI
    have x17 : Xs 17 = true := hdep ⟨17, .guard⟩ (by simp) rfl
    have e92 := hI.gk 17 rfl x17
    have f92 := slot_bool e92
    go_simp
    exact hI.put' (k := 25) (d := 100) (by decide) (by simp) (by simp) (by simp) hI.wp
  · intro Xs a w hX hdep hC hI
    have x17 : Xs 17 = true := hdep ⟨17, .guard⟩ (by simp) rfl
    have e92 := hI.gk 17 rfl x17
    have f92 := slot_bool e92
    go_simp
    exact hI.put' (k := 26) (d := 101) (by decide) (by simp) (by simp) (by simp) hI.wp
  · intro Xs a w hX hdep hC hI
    have x17 : Xs 17 = true := hdep ⟨17, .chain⟩ (by simp) rfl
    have e92 := hI.gk 17 rfl x17
    have f92 := slot_bool e92
    go_simp
    exact hI.put' (k := 27) (d := 102) (by decide) (by simp) (by simp) (by simp) hI.wp
  · intro Xs a w hX hdep hC hI
    have x27 : Xs 27 = true := hdep ⟨27, .guard⟩ (by simp) rfl
    have e102 := hI.gk 27 rfl x27
    have f102 := slot_undef e102 (by rw [hI.size]; decide)
    go_simp
    exact hI.put' (k := 28) (d := 103) (by decide) (by simp) (by simp) (by simp) hI.wp
  · intro Xs a w hX hdep hC hI
    have x27 : Xs 27 = true := hdep ⟨27, .guard⟩ (by simp) rfl
    have e102 := hI.gk 27 rfl x27
    have f102 := slot_undef e102 (by rw [hI.size]; decide)
    go_simp
    exact hI.put' (k := 29) (d := 104) (by decide) (by simp) (by simp) (by simp) hI.wp
  · intro Xs a w hX hdep hC hI
    have x27 : Xs 27 = true := hdep ⟨27, .guard⟩ (by simp) rfl
    have e102 := hI.gk 27 rfl x27
    have f102 := slot_undef e102 (by rw [hI.size]; decide)
    go_simp
    exact hI.put' (k := 30) (d := 105) (by decide) (by simp) (by simp) (by simp) hI.wp
  · intro Xs a w hX hdep hC hI
    have x27 : Xs 27 = true := hdep ⟨27, .guard⟩ (by simp) rfl
    have e102 := hI.gk 27 rfl x27
    have f102 := slot_undef e102 (by rw [hI.size]; decide)
    go_simp
    exact hI.put' (k := 31) (d := 106) (by decide) (by simp) (by simp) (by simp) hI.wp
  · intro Xs a w hX hdep hC hI
    have x27 : Xs 27 = true := hdep ⟨27, .guard⟩ (by simp) rfl
    have e102 := hI.gk 27 rfl x27
    have f102 := slot_undef e102 (by rw [hI.size]; decide)
    go_simp
    exact hI.put' (k := 32) (d := 107) (by decide) (by simp) (by simp) (by simp) hI.wp
  · intro Xs a w hX hdep hC hI
    have x27 : Xs 27 = true := hdep ⟨27, .guard⟩ (by simp) rfl
    have e102 := hI.gk 27 rfl x27
    have f102 := slot_undef e102 (by rw [hI.size]; decide)
    go_simp
    exact hI.put' (k := 33) (d := 108) (by decide) (by simp) (by simp) (by simp) hI.wp
  · intro Xs a w hX hdep hC hI
    have x27 : Xs 27 = true := hdep ⟨27, .guard⟩ (by simp) rfl
    have e102 := hI.gk 27 rfl x27
    have f102 := slot_undef e102 (by rw [hI.size]; decide)
    go_simp
    exact hI.put' (k := 34) (d := 109) (by decide) (by simp) (by simp) (by simp) hI.wp
  · intro Xs a w hX hdep hC hI
    have x27 : Xs 27 = true := hdep ⟨27, .guard⟩ (by simp) rfl
    have e102 := hI.gk 27 rfl x27
    have f102 := slot_undef e102 (by rw [hI.size]; decide)
    go_simp
    exact hI.put' (k := 35) (d := 110) (by decide) (by simp) (by simp) (by simp) hI.wp
  · intro Xs a w hX hdep hC hI
    have x27 : Xs 27 = true := hdep ⟨27, .guard⟩ (by simp) rfl
    have e102 := hI.gk 27 rfl x27
    have f102 := slot_undef e102 (by rw [hI.size]; decide)
    go_simp
    exact hI.put' (k := 36) (d := 111) (by decide) (by simp) (by simp) (by simp) hI.wp
  · intro Xs a w hX hdep hC hI
    have x17 : Xs 17 = true := hdep ⟨17, .guard⟩ (by simp) rfl
    have e92 := hI.gk 17 rfl x17
    have f92 := slot_bool e92
    go_simp
    exact hI.put' (k := 37) (d := 112) (by decide) (by simp) (by simp) (by simp) hI.wp
  · intro Xs a w hX hdep hC hI
    have x17 : Xs 17 = true := hdep ⟨17, .data⟩ (by simp) rfl
    have e92 := hI.gk 17 rfl x17
    go_simp
    exact hI.put' (k := 38) (d := 113) (by decide) (by simp) (by simp) (by simp) hI.wp
  · intro Xs a w hX hI
    refine hQ a w ⟨hI.size, hI.defers, ?_, hI.wp⟩
    simp only [List.mem_cons, List.not_mem_nil, or_false, forall_eq_or_imp, forall_eq]
    exact ⟨hI.gi 1 rfl, hI.gi 3 rfl, hI.gi 5 rfl, hI.gi 6 rfl, hI.gi 7 rfl, hI.gk 38 rfl (hX 38 (by simp))⟩
set_option maxRecDepth 100000 in
set_option maxHeartbeats 4000000 in
theorem n16t (n : Nat) {G : World → Prop} (hS : Stable G) (B r N i M nb qc j t sB g off cap k v k2 v2 s l s2 l2 : Nat) (hi : i < N) (hj : j < M) (ht : t < N) (hs : s ≤ 15) (hl : l ≤ 15) (hs2 : s2 ≤ s + 1) (hl2 : l2 ≤ l + 1) (c3 : ∀ w, G w → w.cell? ⟨B, 3, none⟩ = some (.slice (some ⟨g, off, none⟩) N cap)) (ca0 : ∀ w, G w → w.cell? ⟨g, off + i * 2, none⟩ = some (.int .u8 k)) (ca1 : ∀ w, G w → w.cell? ⟨g, off + i * 2 + 1, none⟩ = some (.int .u8 v)) (cn : ∀ w, G w → w.cell? ⟨nb, j, none⟩ = some (.int .i64 t)) (ct0 : ∀ w, G w → w.cell? ⟨g, off + t * 2, none⟩ = some (.int .u8 k2)) (ct1 : ∀ w, G w → w.cell? ⟨g, off + t * 2 + 1, none⟩ = some (.int .u8 v2)) (cs0 : ∀ w, G w → w.cell? ⟨sB, 0, none⟩ = some (.int .u8 s2)) (li0 : ∀ w, G w → w.cell? ⟨r, i * 2, none⟩ = some (.int .u8 s)) (cs1 : ∀ w, G w → w.cell? ⟨sB, 1, none⟩ = some (.int .u8 l2)) (li1 : ∀ w, G w → w.cell? ⟨r, i * 2 + 1, none⟩ = some (.int .u8 l)) (ho : ∀ m w, G w → CallsIn Fence.wide m Try.prog 17 #[.agg #[.int .u8 k, .int .u8 v]] w fun e w' => e = .returned (.bool true) ∧ Below w.heap.size w w') (ho2 : ∀ m w, G w → CallsIn Fence.wide m Try.prog 17 #[.agg #[.int .u8 k2, .int .u8 v2]] w fun e w' => e = .returned (.bool true) ∧ Below w.heap.size w w') (Q : Exit → Act → World → Prop) (a : Act) (w : World) (h0 : SG [(1, .pointer (some ⟨B, 0, none⟩)), (3, .slice (some ⟨r, 0, none⟩) N N), (5, .int .i64 i), (6, .slice (some ⟨nb, 0, none⟩) M qc), (7, .int .i64 j), (8, .pointer (some ⟨sB, 0, none⟩))] 115 G a w)
    (hQ : ∀ a w, SG [(1, .pointer (some ⟨B, 0, none⟩)), (3, .slice (some ⟨r, 0, none⟩) N N), (5, .int .i64 i), (6, .slice (some ⟨nb, 0, none⟩) M qc), (7, .int .i64 j), (113, .bool false)] 115 G a w → Q .normal a w) : (regOf 16 C5).wpIn Fence.wide n Try.prog Q a w := by
  have hmix : Try.prog.follows .mixedOrders = true := by kernel_rfl
  simp only [regOf, C5, Try.f5, Option.getD, Nat.reduceBEq, Bool.false_eq_true, if_true, if_false]
  refine region_inv (RI [(1, .pointer (some ⟨B, 0, none⟩)), (3, .slice (some ⟨r, 0, none⟩) N N), (5, .int .i64 i), (6, .slice (some ⟨nb, 0, none⟩) M qc), (7, .int .i64 j), (8, .pointer (some ⟨sB, 0, none⟩))]
    [(0, 75, .pointer (some ⟨B, 3, none⟩)), (1, 76, .slice (some ⟨g, off, none⟩) N cap), (2, 77, .int .i64 i), (3, 78, .pointer (some ⟨g, off + i * 2, none⟩)), (4, 79, .agg #[.int .u8 k, .int .u8 v]), (5, 80, .bool true), (6, 81, .bool true), (7, 82, .pointer (some ⟨B, 3, none⟩)), (8, 83, .slice (some ⟨g, off, none⟩) N cap), (9, 84, .slice (some ⟨nb, 0, none⟩) M qc), (10, 85, .int .i64 j), (11, 86, .pointer (some ⟨nb, j, none⟩)), (12, 87, .int .i64 t), (13, 88, .pointer (some ⟨g, off + t * 2, none⟩)), (14, 89, .agg #[.int .u8 k2, .int .u8 v2]), (15, 90, .bool true), (16, 91, .bool true), (17, 92, .bool true), (18, 93, .pointer (some ⟨sB, 0, none⟩)), (19, 94, .int .u8 s2), (20, 95, .slice (some ⟨r, 0, none⟩) N N), (21, 96, .int .i64 i), (22, 97, .pointer (some ⟨r, i * 2, none⟩)), (23, 98, .pointer (some ⟨r, i * 2, none⟩)), (24, 99, .int .u8 s), (25, 100, .int .u8 ((s : Int) + 1)), (26, 101, .bool false), (27, 102, .bool false), (28, 103, .pointer (some ⟨sB, 1, none⟩)), (29, 104, .int .u8 l2), (30, 105, .slice (some ⟨r, 0, none⟩) N N), (31, 106, .int .i64 i), (32, 107, .pointer (some ⟨r, i * 2, none⟩)), (33, 108, .pointer (some ⟨r, i * 2 + 1, none⟩)), (34, 109, .int .u8 l), (35, 110, .int .u8 ((l : Int) + 1)), (36, 111, .bool false), (37, 112, .bool false), (38, 113, .bool false)] 115 [] (fun _ w => G w)) hmix (by kernel_rfl) ⟨h0.size, h0.defers, h0.kn, by simp, hS _ _ h0.wp (Below.refl _ _).drew⟩ ⟨?_, ?_, ?_, ?_, ?_, ?_, ?_, ?_, ?_, ?_, ?_, ?_, ?_, ?_, ?_, ?_, ?_, ?_, ?_, ?_, ?_, ?_, ?_, ?_, ?_, ?_, ?_, ?_, ?_, ?_, ?_, ?_, ?_, ?_, ?_, ?_, ?_, ?_, ?_, trivial⟩ ?_
  · intro Xs a w hX hdep hC hI
    have e1 := hI.gi 1 rfl
    go_simp
    exact hI.put' (k := 0) (d := 75) (by decide) (by simp) (by simp) (by simp) hI.wp
  · intro Xs a w hX hdep hC hI
    have x0 : Xs 0 = true := hdep ⟨0, .data⟩ (by simp) rfl
    have e75 := hI.gk 0 rfl x0
    have cc0 := c3 w hI.wp
    go_simp
    exact hI.put' (k := 1) (d := 76) (by decide) (by simp) (by simp) (by simp) hI.wp
  · intro Xs a w hX hdep hC hI
    have e5 := hI.gi 5 rfl
    go_simp
    exact hI.put' (k := 2) (d := 77) (by decide) (by simp) (by simp) (by simp) hI.wp
  · intro Xs a w hX hdep hC hI
    have x1 : Xs 1 = true := hdep ⟨1, .data⟩ (by simp) rfl
    have e76 := hI.gk 1 rfl x1
    have x2 : Xs 2 = true := hdep ⟨2, .data⟩ (by simp) rfl
    have e77 := hI.gk 2 rfl x2
    have q1_3 : (0 : Int) ≤ i := by omega
    have q2_3 : (i : Int) < N := by omega
    go_simp
    exact hI.put' (k := 3) (d := 78) (by decide) (by simp) (by simp) (by simp) hI.wp
  · intro Xs a w hX hdep hC hI
    have x3 : Xs 3 = true := hdep ⟨3, .data⟩ (by simp) rfl
    have e78 := hI.gk 3 rfl x3
    have cc0 := ca0 w hI.wp
    have cc1 := ca1 w hI.wp
    go_simp
    exact hI.put' (k := 4) (d := 79) (by decide) (by simp) (by simp) (by simp) hI.wp
  · intro Xs a w hX hdep hC hI
    have x4 : Xs 4 = true := hdep ⟨4, .data⟩ (by simp) rfl
    have e79 := hI.gk 4 rfl x4
    go_simp
    refine ⟨trivial, fun h => (by cases h), (ho (n - 1) w hI.wp).mono ?_⟩
    rintro e w' ⟨rfl, hb2⟩
    exact hI.put' (k := 5) (d := 80) (by decide) (by simp) (by simp) (by simp) (hS _ _ hI.wp hb2)
  · intro Xs a w hX hdep hC hI
    have x5 : Xs 5 = true := hdep ⟨5, .data⟩ (by simp) rfl
    have e80 := hI.gk 5 rfl x5
    go_simp
    exact hI.put' (k := 6) (d := 81) (by decide) (by simp) (by simp) (by simp) hI.wp
  · intro Xs a w hX hdep hC hI
    have e1 := hI.gi 1 rfl
    have x6 : Xs 6 = true := hdep ⟨6, .guard⟩ (by simp) rfl
    have e81 := hI.gk 6 rfl x6
    have f81 := slot_bool e81
    go_simp
    exact hI.put' (k := 7) (d := 82) (by decide) (by simp) (by simp) (by simp) hI.wp
  · intro Xs a w hX hdep hC hI
    have x7 : Xs 7 = true := hdep ⟨7, .data⟩ (by simp) rfl
    have e82 := hI.gk 7 rfl x7
    have x6 : Xs 6 = true := hdep ⟨6, .guard⟩ (by simp) rfl
    have e81 := hI.gk 6 rfl x6
    have f81 := slot_bool e81
    have cc0 := c3 w hI.wp
    go_simp
    exact hI.put' (k := 8) (d := 83) (by decide) (by simp) (by simp) (by simp) hI.wp
  · intro Xs a w hX hdep hC hI
    have e6 := hI.gi 6 rfl
    have x6 : Xs 6 = true := hdep ⟨6, .guard⟩ (by simp) rfl
    have e81 := hI.gk 6 rfl x6
    have f81 := slot_bool e81
    go_simp
    exact hI.put' (k := 9) (d := 84) (by decide) (by simp) (by simp) (by simp) hI.wp
  · intro Xs a w hX hdep hC hI
    have e7 := hI.gi 7 rfl
    have x6 : Xs 6 = true := hdep ⟨6, .guard⟩ (by simp) rfl
    have e81 := hI.gk 6 rfl x6
    have f81 := slot_bool e81
    go_simp
    exact hI.put' (k := 10) (d := 85) (by decide) (by simp) (by simp) (by simp) hI.wp
  · intro Xs a w hX hdep hC hI
    have x9 : Xs 9 = true := hdep ⟨9, .data⟩ (by simp) rfl
    have e84 := hI.gk 9 rfl x9
    have x10 : Xs 10 = true := hdep ⟨10, .data⟩ (by simp) rfl
    have e85 := hI.gk 10 rfl x10
    have x6 : Xs 6 = true := hdep ⟨6, .guard⟩ (by simp) rfl
    have e81 := hI.gk 6 rfl x6
    have f81 := slot_bool e81
    have q1_11 : (0 : Int) ≤ j := by omega
    have q2_11 : (j : Int) < M := by omega
    go_simp
    exact hI.put' (k := 11) (d := 86) (by decide) (by simp) (by simp) (by simp) hI.wp
  · intro Xs a w hX hdep hC hI
    have x11 : Xs 11 = true := hdep ⟨11, .data⟩ (by simp) rfl
    have e86 := hI.gk 11 rfl x11
    have x6 : Xs 6 = true := hdep ⟨6, .guard⟩ (by simp) rfl
    have e81 := hI.gk 6 rfl x6
    have f81 := slot_bool e81
    have cc0 := cn w hI.wp
    go_simp
    exact hI.put' (k := 12) (d := 87) (by decide) (by simp) (by simp) (by simp) hI.wp
  · intro Xs a w hX hdep hC hI
    have x8 : Xs 8 = true := hdep ⟨8, .data⟩ (by simp) rfl
    have e83 := hI.gk 8 rfl x8
    have x12 : Xs 12 = true := hdep ⟨12, .data⟩ (by simp) rfl
    have e87 := hI.gk 12 rfl x12
    have x6 : Xs 6 = true := hdep ⟨6, .guard⟩ (by simp) rfl
    have e81 := hI.gk 6 rfl x6
    have f81 := slot_bool e81
    have q1_13 : (0 : Int) ≤ t := by omega
    have q2_13 : (t : Int) < N := by omega
    go_simp
    exact hI.put' (k := 13) (d := 88) (by decide) (by simp) (by simp) (by simp) hI.wp
  · intro Xs a w hX hdep hC hI
    have x13 : Xs 13 = true := hdep ⟨13, .data⟩ (by simp) rfl
    have e88 := hI.gk 13 rfl x13
    have x6 : Xs 6 = true := hdep ⟨6, .guard⟩ (by simp) rfl
    have e81 := hI.gk 6 rfl x6
    have f81 := slot_bool e81
    have cc0 := ct0 w hI.wp
    have cc1 := ct1 w hI.wp
    go_simp
    exact hI.put' (k := 14) (d := 89) (by decide) (by simp) (by simp) (by simp) hI.wp
  · intro Xs a w hX hdep hC hI
    have x14 : Xs 14 = true := hdep ⟨14, .data⟩ (by simp) rfl
    have e89 := hI.gk 14 rfl x14
    have x6 : Xs 6 = true := hdep ⟨6, .chain⟩ (by simp) rfl
    have e81 := hI.gk 6 rfl x6
    have f81 := slot_bool e81
    go_simp
    refine ⟨trivial, fun h => (by cases h), (ho2 (n - 1) w hI.wp).mono ?_⟩
    rintro e w' ⟨rfl, hb2⟩
    exact hI.put' (k := 15) (d := 90) (by decide) (by simp) (by simp) (by simp) (hS _ _ hI.wp hb2)
  · intro Xs a w hX hdep hC hI
    have x6 : Xs 6 = true := hdep ⟨6, .data⟩ (by simp) rfl
    have e81 := hI.gk 6 rfl x6
    have x15 : Xs 15 = true := hdep ⟨15, .data⟩ (by simp) rfl
    have e90 := hI.gk 15 rfl x15
    go_simp
    exact hI.put' (k := 16) (d := 91) (by decide) (by simp) (by simp) (by simp) hI.wp
  · intro Xs a w hX hdep hC hI
    have x16 : Xs 16 = true := hdep ⟨16, .data⟩ (by simp) rfl
    have e91 := hI.gk 16 rfl x16
    go_simp
    exact hI.put' (k := 17) (d := 92) (by decide) (by simp) (by simp) (by simp) hI.wp
  · intro Xs a w hX hdep hC hI
    have e8 := hI.gi 8 rfl
    have x17 : Xs 17 = true := hdep ⟨17, .guard⟩ (by simp) rfl
    have e92 := hI.gk 17 rfl x17
    have f92 := slot_bool e92
    go_simp
    exact hI.put' (k := 18) (d := 93) (by decide) (by simp) (by simp) (by simp) hI.wp
  · intro Xs a w hX hdep hC hI
    have x18 : Xs 18 = true := hdep ⟨18, .data⟩ (by simp) rfl
    have e93 := hI.gk 18 rfl x18
    have x17 : Xs 17 = true := hdep ⟨17, .guard⟩ (by simp) rfl
    have e92 := hI.gk 17 rfl x17
    have f92 := slot_bool e92
    have cc0 := cs0 w hI.wp
    go_simp
    exact hI.put' (k := 19) (d := 94) (by decide) (by simp) (by simp) (by simp) hI.wp
  · intro Xs a w hX hdep hC hI
    have e3 := hI.gi 3 rfl
    have x17 : Xs 17 = true := hdep ⟨17, .guard⟩ (by simp) rfl
    have e92 := hI.gk 17 rfl x17
    have f92 := slot_bool e92
    go_simp
    exact hI.put' (k := 20) (d := 95) (by decide) (by simp) (by simp) (by simp) hI.wp
  · intro Xs a w hX hdep hC hI
    have e5 := hI.gi 5 rfl
    have x17 : Xs 17 = true := hdep ⟨17, .guard⟩ (by simp) rfl
    have e92 := hI.gk 17 rfl x17
    have f92 := slot_bool e92
    go_simp
    exact hI.put' (k := 21) (d := 96) (by decide) (by simp) (by simp) (by simp) hI.wp
  · intro Xs a w hX hdep hC hI
    have x20 : Xs 20 = true := hdep ⟨20, .data⟩ (by simp) rfl
    have e95 := hI.gk 20 rfl x20
    have x21 : Xs 21 = true := hdep ⟨21, .data⟩ (by simp) rfl
    have e96 := hI.gk 21 rfl x21
    have x17 : Xs 17 = true := hdep ⟨17, .guard⟩ (by simp) rfl
    have e92 := hI.gk 17 rfl x17
    have f92 := slot_bool e92
    have q1_22 : (0 : Int) ≤ i := by omega
    have q2_22 : (i : Int) < N := by omega
    go_simp
    exact hI.put' (k := 22) (d := 97) (by decide) (by simp) (by simp) (by simp) hI.wp
  · intro Xs a w hX hdep hC hI
    have x22 : Xs 22 = true := hdep ⟨22, .data⟩ (by simp) rfl
    have e97 := hI.gk 22 rfl x22
    have x17 : Xs 17 = true := hdep ⟨17, .guard⟩ (by simp) rfl
    have e92 := hI.gk 17 rfl x17
    have f92 := slot_bool e92
    go_simp
    exact hI.put' (k := 23) (d := 98) (by decide) (by simp) (by simp) (by simp) hI.wp
  · intro Xs a w hX hdep hC hI
    have x23 : Xs 23 = true := hdep ⟨23, .data⟩ (by simp) rfl
    have e98 := hI.gk 23 rfl x23
    have x17 : Xs 17 = true := hdep ⟨17, .guard⟩ (by simp) rfl
    have e92 := hI.gk 17 rfl x17
    have f92 := slot_bool e92
    have cc0 := li0 w hI.wp
    go_simp
    exact hI.put' (k := 24) (d := 99) (by decide) (by simp) (by simp) (by simp) hI.wp
  · intro Xs a w hX hdep hC hI
    have x24 : Xs 24 = true := hdep ⟨24, .data⟩ (by simp) rfl
    have e99 := hI.gk 24 rfl x24
    have x17 : Xs 17 = true := hdep ⟨17, .guard⟩ (by simp) rfl
    have e92 := hI.gk 17 rfl x17
    have f92 := slot_bool e92
    have hw : IntKind.u8.wrap ((s : Int) + 1) = (s : Int) + 1 := IntWalk.u8_in _ (by omega)
    go_simp
    exact hI.put' (k := 25) (d := 100) (v := .int .u8 ((s : Int) + 1)) (by decide) (by simp) (by simp) (by simp) hI.wp
  · intro Xs a w hX hdep hC hI
    have x19 : Xs 19 = true := hdep ⟨19, .data⟩ (by simp) rfl
    have e94 := hI.gk 19 rfl x19
    have x25 : Xs 25 = true := hdep ⟨25, .data⟩ (by simp) rfl
    have e100 := hI.gk 25 rfl x25
    have x17 : Xs 17 = true := hdep ⟨17, .guard⟩ (by simp) rfl
    have e92 := hI.gk 17 rfl x17
    have f92 := slot_bool e92
    have z1 : ¬ ((s : Int) + 1 < (s2 : Int)) := by omega
    have z2 : ¬ (s + 1 < s2) := by omega
    go_simp
    exact hI.put' (k := 26) (d := 101) (by decide) (by simp) (by simp) (by simp) hI.wp
  · intro Xs a w hX hdep hC hI
    have x26 : Xs 26 = true := hdep ⟨26, .data⟩ (by simp) rfl
    have e101 := hI.gk 26 rfl x26
    have x17 : Xs 17 = true := hdep ⟨17, .chain⟩ (by simp) rfl
    have e92 := hI.gk 17 rfl x17
    have f92 := slot_bool e92
    go_simp
    exact hI.put' (k := 27) (d := 102) (by decide) (by simp) (by simp) (by simp) hI.wp
  · intro Xs a w hX hdep hC hI
    have e8 := hI.gi 8 rfl
    have x27 : Xs 27 = true := hdep ⟨27, .guard⟩ (by simp) rfl
    have e102 := hI.gk 27 rfl x27
    have f102 := slot_bool e102
    go_simp
    exact hI.put' (k := 28) (d := 103) (by decide) (by simp) (by simp) (by simp) hI.wp
  · intro Xs a w hX hdep hC hI
    have x28 : Xs 28 = true := hdep ⟨28, .data⟩ (by simp) rfl
    have e103 := hI.gk 28 rfl x28
    have x27 : Xs 27 = true := hdep ⟨27, .guard⟩ (by simp) rfl
    have e102 := hI.gk 27 rfl x27
    have f102 := slot_bool e102
    have cc0 := cs1 w hI.wp
    go_simp
    exact hI.put' (k := 29) (d := 104) (by decide) (by simp) (by simp) (by simp) hI.wp
  · intro Xs a w hX hdep hC hI
    have e3 := hI.gi 3 rfl
    have x27 : Xs 27 = true := hdep ⟨27, .guard⟩ (by simp) rfl
    have e102 := hI.gk 27 rfl x27
    have f102 := slot_bool e102
    go_simp
    exact hI.put' (k := 30) (d := 105) (by decide) (by simp) (by simp) (by simp) hI.wp
  · intro Xs a w hX hdep hC hI
    have e5 := hI.gi 5 rfl
    have x27 : Xs 27 = true := hdep ⟨27, .guard⟩ (by simp) rfl
    have e102 := hI.gk 27 rfl x27
    have f102 := slot_bool e102
    go_simp
    exact hI.put' (k := 31) (d := 106) (by decide) (by simp) (by simp) (by simp) hI.wp
  · intro Xs a w hX hdep hC hI
    have x30 : Xs 30 = true := hdep ⟨30, .data⟩ (by simp) rfl
    have e105 := hI.gk 30 rfl x30
    have x31 : Xs 31 = true := hdep ⟨31, .data⟩ (by simp) rfl
    have e106 := hI.gk 31 rfl x31
    have x27 : Xs 27 = true := hdep ⟨27, .guard⟩ (by simp) rfl
    have e102 := hI.gk 27 rfl x27
    have f102 := slot_bool e102
    have q1_32 : (0 : Int) ≤ i := by omega
    have q2_32 : (i : Int) < N := by omega
    go_simp
    exact hI.put' (k := 32) (d := 107) (by decide) (by simp) (by simp) (by simp) hI.wp
  · intro Xs a w hX hdep hC hI
    have x32 : Xs 32 = true := hdep ⟨32, .data⟩ (by simp) rfl
    have e107 := hI.gk 32 rfl x32
    have x27 : Xs 27 = true := hdep ⟨27, .guard⟩ (by simp) rfl
    have e102 := hI.gk 27 rfl x27
    have f102 := slot_bool e102
    go_simp
    exact hI.put' (k := 33) (d := 108) (by decide) (by simp) (by simp) (by simp) hI.wp
  · intro Xs a w hX hdep hC hI
    have x33 : Xs 33 = true := hdep ⟨33, .data⟩ (by simp) rfl
    have e108 := hI.gk 33 rfl x33
    have x27 : Xs 27 = true := hdep ⟨27, .guard⟩ (by simp) rfl
    have e102 := hI.gk 27 rfl x27
    have f102 := slot_bool e102
    have cc0 := li1 w hI.wp
    go_simp
    exact hI.put' (k := 34) (d := 109) (by decide) (by simp) (by simp) (by simp) hI.wp
  · intro Xs a w hX hdep hC hI
    have x34 : Xs 34 = true := hdep ⟨34, .data⟩ (by simp) rfl
    have e109 := hI.gk 34 rfl x34
    have x27 : Xs 27 = true := hdep ⟨27, .guard⟩ (by simp) rfl
    have e102 := hI.gk 27 rfl x27
    have f102 := slot_bool e102
    have hw : IntKind.u8.wrap ((l : Int) + 1) = (l : Int) + 1 := IntWalk.u8_in _ (by omega)
    go_simp
    exact hI.put' (k := 35) (d := 110) (v := .int .u8 ((l : Int) + 1)) (by decide) (by simp) (by simp) (by simp) hI.wp
  · intro Xs a w hX hdep hC hI
    have x29 : Xs 29 = true := hdep ⟨29, .data⟩ (by simp) rfl
    have e104 := hI.gk 29 rfl x29
    have x35 : Xs 35 = true := hdep ⟨35, .data⟩ (by simp) rfl
    have e110 := hI.gk 35 rfl x35
    have x27 : Xs 27 = true := hdep ⟨27, .guard⟩ (by simp) rfl
    have e102 := hI.gk 27 rfl x27
    have f102 := slot_bool e102
    have z1 : ¬ ((l : Int) + 1 < (l2 : Int)) := by omega
    have z2 : ¬ (l + 1 < l2) := by omega
    go_simp
    exact hI.put' (k := 36) (d := 111) (by decide) (by simp) (by simp) (by simp) hI.wp
  · intro Xs a w hX hdep hC hI
    have x27 : Xs 27 = true := hdep ⟨27, .data⟩ (by simp) rfl
    have e102 := hI.gk 27 rfl x27
    have x36 : Xs 36 = true := hdep ⟨36, .data⟩ (by simp) rfl
    have e111 := hI.gk 36 rfl x36
    have x17 : Xs 17 = true := hdep ⟨17, .guard⟩ (by simp) rfl
    have e92 := hI.gk 17 rfl x17
    have f92 := slot_bool e92
    go_simp
    exact hI.put' (k := 37) (d := 112) (by decide) (by simp) (by simp) (by simp) hI.wp
  · intro Xs a w hX hdep hC hI
    have x17 : Xs 17 = true := hdep ⟨17, .data⟩ (by simp) rfl
    have e92 := hI.gk 17 rfl x17
    have x37 : Xs 37 = true := hdep ⟨37, .data⟩ (by simp) rfl
    have e112 := hI.gk 37 rfl x37
    go_simp
    exact hI.put' (k := 38) (d := 113) (by decide) (by simp) (by simp) (by simp) hI.wp
  · intro Xs a w hX hI
    refine hQ a w ⟨hI.size, hI.defers, ?_, hI.wp⟩
    simp only [List.mem_cons, List.not_mem_nil, or_false, forall_eq_or_imp, forall_eq]
    exact ⟨hI.gi 1 rfl, hI.gi 3 rfl, hI.gi 5 rfl, hI.gi 6 rfl, hI.gi 7 rfl, hI.gk 38 rfl (hX 38 (by simp))⟩
set_option maxRecDepth 100000 in
set_option maxHeartbeats 4000000 in
theorem n18 (n : Nat) {G : World → Prop} (hS : Stable G)  (hw : ∀ m w, G w → CallsIn Fence.wide m Try.prog 13 #[] w fun e w' => e = .returned (.bool true) ∧ Below w.heap.size w w') (Q : Exit → Act → World → Prop) (a : Act) (w : World) (h0 : SG [] 115 G a w)
    (hQ : ∀ a w, SG [(2, .bool true)] 115 G a w → Q .normal a w) : (regOf 18 C5).wpIn Fence.wide n Try.prog Q a w := by
  simp only [regOf, C5, Try.f5, Option.getD, Nat.reduceBEq, Bool.false_eq_true, if_true, if_false]
  refine region_sq (fun k_ a w => match k_ with | 0 => SG [] 115 G a w | 1 => SG [(114, .bool true)] 115 G a w | _ => SG [(2, .bool true)] 115 G a w) (show SG _ _ G a w from h0) ⟨?_, ?_, trivial⟩ ?_
  · intro a w hI
    have hI : SG _ _ G a w := hI
    go_simp
    refine ⟨trivial, fun h => (by cases h), (hw (n - 1) w hI.wp).mono ?_⟩
    rintro e w' ⟨rfl, hb2⟩
    exact hI.put (d := 114) (by decide) (by simp) (hS _ _ hI.wp hb2)
  · intro a w hI
    have hI : SG _ _ G a w := hI
    have e114 := hI.g 114 rfl
    go_simp
    exact hI.put (d := 2) (by decide) (by simp) hI.wp
  · intro a w hI
    have hI : SG _ _ G a w := hI
    exact hQ a w hI
/-! ### GlowNear -/
noncomputable def Rd5 : Code := .seq (regOf 15 C5) (.seq (regOf 16 C5) (.cond (.tmp 113) (.seq (regOf 17 C5) .ret) .skip))
noncomputable def Lp5i : Code := .seq (.seq (regOf 13 C5) (.cond (.tmp 65) .skip (.exit 2))) (.seq (.block 3 Rd5) (regOf 14 C5))
noncomputable def Bd5 : Code := .seq (.seq (regOf 9 C5) (.cond (.tmp 58) (.seq (regOf 10 C5) .ret) .skip)) (.seq (regOf 11 C5) (.seq (regOf 12 C5) (.block 2 (.loop Lp5i))))
noncomputable def Lp5 : Code := .seq (.seq (regOf 7 C5) (.cond (.tmp 25) .skip (.exit 0))) (.seq (.block 1 Bd5) (regOf 8 C5))
theorem C5_eq : C5 = .seq (regOf 0 C5) (.seq (.seq (regOf 1 C5) (.cond (.tmp 12) (.seq (regOf 2 C5) .ret) .skip)) (.seq (regOf 3 C5) (.seq (.seq (regOf 4 C5) (.cond (.tmp 20) (.seq (regOf 5 C5) .ret) .skip)) (.seq (.seq (regOf 6 C5) (.block 0 (.loop Lp5))) (.seq (regOf 18 C5) .ret))))) := by kernel_rfl
section
variable {W0 : World} {X Y Z N g off cap r B : Nat} {A : Nat → Int}
abbrev A7n (B r N i : Nat) (q : Value) (j : Nat) : List (Nat × Value) := [(1, .pointer (some ⟨B, 0, none⟩)), (3, .slice (some ⟨r, 0, none⟩) N N), (5, .int .i64 i), (6, q), (7, .int .i64 j)]
/-- What holds in the inner loop. -/
abbrev GN (W0 : World) (X Y Z N g off cap r B : Nat) (A : Nat → Int) (b : Nat) (q : Value) (l : List Nat) : World → Prop := fun w => Has W0 (bs5 X Y Z N g off cap r B A) w ∧ w.ownsRow b 3 1 q l.length (intsV l)
set_option maxHeartbeats 1000000 in
theorem near_round (n : Nat) (h : Arg W0 X Y Z N g off A) {i b j t nb qc : Nat} {l : List Nat} (hi : i < N) (ht : l[j]? = some t) (htm : t ∈ Glow.sides X Y Z i) (a : Act) (w : World) (Q : Exit → Act → World → Prop)
    (ha : SG (A7n B r N i (.slice (some ⟨nb, 0, none⟩) l.length qc) j) 115 (GN W0 X Y Z N g off cap r B A b (.slice (some ⟨nb, 0, none⟩) l.length qc) l) a w)
    (hQ : ∀ a w, SG (A7n B r N i (.slice (some ⟨nb, 0, none⟩) l.length qc) j) 115 (GN W0 X Y Z N g off cap r B A b (.slice (some ⟨nb, 0, none⟩) l.length qc) l) a w → Q .normal a w) : Rd5.wpIn Fence.wide n Try.prog Q a w := by
  obtain ⟨s15, sfx⟩ := sky_fix (cl := clA A) h.n.symm
  obtain ⟨l15, lfx⟩ := lamp_fix (cl := clA A) h.n.symm (lmA_le A)
  have hN := h.le
  have hG := ha.wp
  have hlt : j < l.length := (List.getElem?_eq_some_iff.1 ht).1
  have htN : t < N := by have := (Glow.sides_sym X Y Z i t (by rw [← h.n]; exact hi) htm).1; rw [h.n]; exact this
  unfold Rd5
  refine wpIn_seq ?_
  refine n15 n w B r N i l.length nb qc j t _ _ hlt htN (ownsRow_cell hG.2 ht) (lights5 (fun _ h => h) hG.1 (pair_sky _ _ htN)) (lights5 (fun _ h => h) hG.1 (pair_lamp _ _ htN)) _ a ha.sr ?_
  intro a2 h2
  have hA := hG.1.alloc (.cells #[.int .u8 ((skyL X Y Z (clA A)).getD t 0 : Nat), .int .u8 ((lampL X Y Z (clA A) (lmA A)).getD t 0 : Nat)] 37)
  have hO := ownsRow_below hG.2 ((Below.refl w.heap.size w).alloc (Nat.le_refl _) (.cells #[.int .u8 ((skyL X Y Z (clA A)).getD t 0 : Nat), .int .u8 ((lampL X Y Z (clA A) (lmA A)).getD t 0 : Nat)] 37))
  generalize w.heap.size = sB at hA h2
  have hS : Stable fun w' => Has W0 ((sB, .cells #[.int .u8 ((skyL X Y Z (clA A)).getD t 0 : Nat), .int .u8 ((lampL X Y Z (clA A) (lmA A)).getD t 0 : Nat)] 37 (0, 0)) :: bs5 X Y Z N g off cap r B A) w' ∧ w'.ownsRow b 3 1 (.slice (some ⟨nb, 0, none⟩) l.length qc) l.length (intsV l) := (Has.stable _ _).and ownsRow_stable
  have h3 := h2.sg (G := fun w' => Has W0 ((sB, .cells #[.int .u8 ((skyL X Y Z (clA A)).getD t 0 : Nat), .int .u8 ((lampL X Y Z (clA A) (lmA A)).getD t 0 : Nat)] 37 (0, 0)) :: bs5 X Y Z N g off cap r B A) w' ∧ w'.ownsRow b 3 1 (.slice (some ⟨nb, 0, none⟩) l.length qc) l.length (intsV l)) ⟨hA, hO⟩
  generalize (w.alloc _) = w2 at h2 h3 ⊢
  have fin : ∀ a3 w3, SG [(1, .pointer (some ⟨B, 0, none⟩)), (3, .slice (some ⟨r, 0, none⟩) N N), (5, .int .i64 i), (6, .slice (some ⟨nb, 0, none⟩) l.length qc), (7, .int .i64 j), (113, .bool false)] 115 (fun w' => Has W0 ((sB, .cells #[.int .u8 ((skyL X Y Z (clA A)).getD t 0 : Nat), .int .u8 ((lampL X Y Z (clA A) (lmA A)).getD t 0 : Nat)] 37 (0, 0)) :: bs5 X Y Z N g off cap r B A) w' ∧ w'.ownsRow b 3 1 (.slice (some ⟨nb, 0, none⟩) l.length qc) l.length (intsV l)) a3 w3 →
      (Code.cond (.tmp 113) (.seq (regOf 17 C5) .ret) .skip).wpIn Fence.wide n Try.prog Q a3 w3 := fun a3 w3 h => by
    refine wpIn_cond (t := false) (by rw [eval_tmp]; exact h.kn (113, .bool false) (by simp)) (wpIn_skip ?_)
    exact hQ a3 w3 ⟨h.size, h.defers, (h.sub (by simp)).kn, h.wp.1.tail, h.wp.2⟩
  have cb : ∀ {w'}, Has W0 ((sB, .cells #[.int .u8 ((skyL X Y Z (clA A)).getD t 0 : Nat), .int .u8 ((lampL X Y Z (clA A) (lmA A)).getD t 0 : Nat)] 37 (0, 0)) :: bs5 X Y Z N g off cap r B A) w' → ∀ {k v}, (#[.int .i64 X, .int .i64 Y, .int .i64 Z, .slice (some ⟨g, off, none⟩) N cap] : Array Value)[k]? = some v → w'.cell? ⟨B, k, none⟩ = some v := fun hh _ _ hv => hh.cell (t := 24) (fr := (0, 0)) (by simp) hv
  have cl : ∀ {w'}, Has W0 ((sB, .cells #[.int .u8 ((skyL X Y Z (clA A)).getD t 0 : Nat), .int .u8 ((lampL X Y Z (clA A) (lmA A)).getD t 0 : Nat)] 37 (0, 0)) :: bs5 X Y Z N g off cap r B A) w' → ∀ {k v}, (pairsV (skyL X Y Z (clA A)) (lampL X Y Z (clA A) (lmA A)) N N)[k]? = some v → w'.cell? ⟨r, k, none⟩ = some v := fun hh _ _ hv => hh.cell (t := 37) (fr := (0, 0)) (by simp) hv
  have cs : ∀ {w'}, Has W0 ((sB, .cells #[.int .u8 ((skyL X Y Z (clA A)).getD t 0 : Nat), .int .u8 ((lampL X Y Z (clA A) (lmA A)).getD t 0 : Nat)] 37 (0, 0)) :: bs5 X Y Z N g off cap r B A) w' → ∀ {k v}, (#[.int .u8 ((skyL X Y Z (clA A)).getD t 0 : Nat), .int .u8 ((lampL X Y Z (clA A) (lmA A)).getD t 0 : Nat)] : Array Value)[k]? = some v → w'.cell? ⟨sB, k, none⟩ = some v := fun hh _ _ hv => hh.cell (t := 37) (fr := (0, 0)) (by simp) hv
  have ho := fun (m : Nat) (w' : World) (_ : Has W0 ((sB, .cells #[.int .u8 ((skyL X Y Z (clA A)).getD t 0 : Nat), .int .u8 ((lampL X Y Z (clA A) (lmA A)).getD t 0 : Nat)] 37 (0, 0)) :: bs5 X Y Z N g off cap r B A) w' ∧ w'.ownsRow b 3 1 (.slice (some ⟨nb, 0, none⟩) l.length qc) l.length (intsV l)) => h.row.open_ hi m w'
  have ho2 := fun (m : Nat) (w' : World) (_ : Has W0 ((sB, .cells #[.int .u8 ((skyL X Y Z (clA A)).getD t 0 : Nat), .int .u8 ((lampL X Y Z (clA A) (lmA A)).getD t 0 : Nat)] 37 (0, 0)) :: bs5 X Y Z N g off cap r B A) w' ∧ w'.ownsRow b 3 1 (.slice (some ⟨nb, 0, none⟩) l.length qc) l.length (intsV l)) => h.row.open_ htN m w'
  refine wpIn_seq ?_
  cases ec : clA A i with
  | false =>
    rw [ec] at ho
    exact n16f n hS B r N i l.length nb qc j t sB g off cap (kd A i) (lv A i) (kd A t) (lv A t) ((skyL X Y Z (clA A)).getD i 0) ((lampL X Y Z (clA A) (lmA A)).getD i 0) ((skyL X Y Z (clA A)).getD t 0) ((lampL X Y Z (clA A) (lmA A)).getD t 0) hi hlt htN (s15 i) (l15 i)
      (fun w h' => cb h'.1 rfl) (fun w h' => h'.1.old h.row.lt (h.row.kind hi)) (fun w h' => h'.1.old h.row.lt (h.row.level hi)) ho _ a2 w2 h3 fin
  | true =>
    rw [ec] at ho
    cases et : clA A t with
    | false =>
      rw [et] at ho2
      exact n16g n hS B r N i l.length nb qc j t sB g off cap (kd A i) (lv A i) (kd A t) (lv A t) ((skyL X Y Z (clA A)).getD i 0) ((lampL X Y Z (clA A) (lmA A)).getD i 0) ((skyL X Y Z (clA A)).getD t 0) ((lampL X Y Z (clA A) (lmA A)).getD t 0) hi hlt htN (s15 i) (l15 i)
        (fun w h' => cb h'.1 rfl) (fun w h' => h'.1.old h.row.lt (h.row.kind hi)) (fun w h' => h'.1.old h.row.lt (h.row.level hi)) (fun w h' => ownsRow_cell h'.2 ht) (fun w h' => h'.1.old h.row.lt (h.row.kind htN)) (fun w h' => h'.1.old h.row.lt (h.row.level htN)) ho ho2 _ a2 w2 h3 fin
    | true =>
      rw [et] at ho2
      exact n16t n hS B r N i l.length nb qc j t sB g off cap (kd A i) (lv A i) (kd A t) (lv A t) ((skyL X Y Z (clA A)).getD i 0) ((lampL X Y Z (clA A) (lmA A)).getD i 0) ((skyL X Y Z (clA A)).getD t 0) ((lampL X Y Z (clA A) (lmA A)).getD t 0) hi hlt htN (s15 i) (l15 i) (sfx.near hi ec htm) (lfx.near hi ec htm)
        (fun w h' => cb h'.1 rfl) (fun w h' => h'.1.old h.row.lt (h.row.kind hi)) (fun w h' => h'.1.old h.row.lt (h.row.level hi)) (fun w h' => ownsRow_cell h'.2 ht) (fun w h' => h'.1.old h.row.lt (h.row.kind htN)) (fun w h' => h'.1.old h.row.lt (h.row.level htN))
        (fun w h' => cs h'.1 rfl) (fun w h' => cl h'.1 (pair_sky _ _ hi)) (fun w h' => cs h'.1 rfl) (fun w h' => cl h'.1 (pair_lamp _ _ hi)) ho ho2 _ a2 w2 h3 fin
set_option maxHeartbeats 1000000 in
theorem near_inner (n : Nat) (h : Arg W0 X Y Z N g off A) {i b : Nat} (hi : i < N) {q : Value} (a : Act) (w : World) (ha : SG (A7n B r N i q 0) 115 (GN W0 X Y Z N g off cap r B A b q (sidesQ X Y Z i)) a w) (Q : Exit → Act → World → Prop)
    (hQ : ∀ a w, SG (A5 B r N i) 115 (Has W0 (bs5 X Y Z N g off cap r B A)) a w → Q .normal a w) : (Code.block 2 (.loop Lp5i)).wpIn Fence.wide n Try.prog Q a w := by
  obtain ⟨qp, qc, rfl, hqp⟩ := ownsRow_shape ha.wp.2
  have hlen : (sidesQ X Y Z i).length < 9000000000 := by
    unfold sidesQ
    have l1 := ite_len (0 < i % X) (i - 1)
    have l2 := ite_len (i % X + 1 < X) (i + 1)
    have l3 := ite_len (0 < i / X % Z) (i - X)
    have l4 := ite_len (i / X % Z + 1 < Z) (i + X)
    have l5 := ite_len (0 < i / X / Z) (i - X * Z)
    have l6 := ite_len (i / X / Z + 1 < Y) (i + X * Z)
    simp only [List.length_append, List.length_nil]; omega
  refine wpIn_block (wpIn_loop (fun a w => ∃ j, j ≤ (sidesQ X Y Z i).length ∧ SG (A7n B r N i (.slice qp (sidesQ X Y Z i).length qc) j) 115 (GN W0 X Y Z N g off cap r B A b (.slice qp (sidesQ X Y Z i).length qc) (sidesQ X Y Z i)) a w)
    (fun a _ => (sidesQ X Y Z i).length - slotN 7 a) ⟨0, Nat.zero_le _, ha⟩ ?_)
  rintro a w ⟨j, hj, ha⟩
  have e7 := ha.slot (t := 7) (v := j) (k := .i64) (by simp)
  have hG := ha.wp
  unfold Lp5i
  refine wpIn_seq (wpIn_seq (n13 n w B r N i (sidesQ X Y Z i).length qc j qp _ a ha.sr ?_))
  intro a1 h1
  have h1 := h1.sg (G := GN W0 X Y Z N g off cap r B A b (.slice qp (sidesQ X Y Z i).length qc) (sidesQ X Y Z i)) hG
  refine wpIn_cond (t := decide (j < (sidesQ X Y Z i).length)) (by rw [eval_tmp]; exact h1.kn (65, _) (by simp)) ?_
  by_cases hlt : j < (sidesQ X Y Z i).length
  · rw [decide_eq_true hlt]
    refine wpIn_skip (wpIn_seq (wpIn_block ?_))
    obtain ⟨nb, rfl⟩ := hqp (by omega)
    obtain ⟨t, ht⟩ : ∃ t, (sidesQ X Y Z i)[j]? = some t := ⟨_, List.getElem?_eq_getElem hlt⟩
    have htm : t ∈ Glow.sides X Y Z i := sidesQ_mem.1 (List.mem_of_getElem? ht)
    refine near_round n h hi ht htm a1 w _ (h1.sub (by simp)) ?_
    intro a2 w2 h2
    show (regOf 14 C5).wpIn _ _ _ _ _ _
    have hG2 := h2.wp
    refine n14 n w2 B r N i (sidesQ X Y Z i).length qc j _ (by omega) _ a2 h2.sr ?_
    intro a3 h3
    have h3 : SG (A7n B r N i (.slice (some ⟨nb, 0, none⟩) (sidesQ X Y Z i).length qc) (j + 1)) 115 (GN W0 X Y Z N g off cap r B A b (.slice (some ⟨nb, 0, none⟩) (sidesQ X Y Z i).length qc) (sidesQ X Y Z i)) a3 w2 := h3.sg hG2
    exact ⟨⟨j + 1, hlt, h3⟩, by rw [e7, h3.slot (t := 7) (v := j + 1) (k := .i64) (by simp)]; omega⟩
  · rw [decide_eq_false hlt]
    refine wpIn_exit ?_
    exact hQ a1 w ⟨h1.size, h1.defers, (h1.sub (by simp)).kn, hG.1⟩
set_option maxHeartbeats 1000000 in
theorem near_loop (n : Nat) (h : Arg W0 X Y Z N g off A) (a : Act) (w : World) (ha : SG (A5 B r N 0) 115 (Has W0 (bs5 X Y Z N g off cap r B A)) a w) (Q : Exit → Act → World → Prop)
    (hQ : ∀ a w, SG [] 115 (Has W0 (bs5 X Y Z N g off cap r B A)) a w → Q .normal a w) : (Code.block 0 (.loop Lp5)).wpIn Fence.wide n Try.prog Q a w := by
  obtain ⟨s15, sfx⟩ := sky_fix (cl := clA A) h.n.symm
  obtain ⟨l15, lfx⟩ := lamp_fix (cl := clA A) h.n.symm (lmA_le A)
  have hN := h.le
  refine wpIn_block (wpIn_loop (fun a w => ∃ i, i ≤ N ∧ SG (A5 B r N i) 115 (Has W0 (bs5 X Y Z N g off cap r B A)) a w) (fun a _ => N - slotN 5 a) ⟨0, Nat.zero_le _, ha⟩ ?_)
  rintro a w ⟨i, hin, ha⟩
  have e5 := ha.slot (t := 5) (v := i) (k := .i64) (by simp)
  have hG := ha.wp
  unfold Lp5
  refine wpIn_seq (wpIn_seq (n7 n w B r N i _ a ha.sr ?_))
  intro a1 h1
  have h1 := h1.sg (G := Has W0 (bs5 X Y Z N g off cap r B A)) hG
  refine wpIn_cond (t := decide (i < N)) (by rw [eval_tmp]; exact h1.kn (25, _) (by simp)) ?_
  by_cases hlt : i < N
  · rw [decide_eq_true hlt]
    refine wpIn_skip (wpIn_seq (wpIn_block ?_))
    unfold Bd5
    have ho := fun (m : Nat) (w' : World) (_ : Has W0 (bs5 X Y Z N g off cap r B A) w') => h.row.open_ hlt m w'
    have rest : ∀ a2 w2, SG [(1, .pointer (some ⟨B, 0, none⟩)), (3, .slice (some ⟨r, 0, none⟩) N N), (5, .int .i64 i), (58, .bool false)] 115 (Has W0 (bs5 X Y Z N g off cap r B A)) a2 w2 → (Code.cond (.tmp 58) (.seq (regOf 10 C5) .ret) .skip).wpIn Fence.wide n Try.prog (Exit.then (Code.wpIn Fence.wide n Try.prog (.seq (regOf 11 C5) (.seq (regOf 12 C5) (.block 2 (.loop Lp5i)))) (Exit.inBlock 1 (Exit.then (Code.wpIn Fence.wide n Try.prog (regOf 8 C5) (Exit.then (fun a' w' => (∃ i, i ≤ N ∧ SG (A5 B r N i) 115 (Has W0 (bs5 X Y Z N g off cap r B A)) a' w') ∧ N - slotN 5 a' < N - slotN 5 a) (Exit.inBlock 0 Q))) (Exit.then (fun a' w' => (∃ i, i ≤ N ∧ SG (A5 B r N i) 115 (Has W0 (bs5 X Y Z N g off cap r B A)) a' w') ∧ N - slotN 5 a' < N - slotN 5 a) (Exit.inBlock 0 Q))))) (Exit.inBlock 1 (Exit.then (Code.wpIn Fence.wide n Try.prog (regOf 8 C5) (Exit.then (fun a' w' => (∃ i, i ≤ N ∧ SG (A5 B r N i) 115 (Has W0 (bs5 X Y Z N g off cap r B A)) a' w') ∧ N - slotN 5 a' < N - slotN 5 a) (Exit.inBlock 0 Q))) (Exit.then (fun a' w' => (∃ i, i ≤ N ∧ SG (A5 B r N i) 115 (Has W0 (bs5 X Y Z N g off cap r B A)) a' w') ∧ N - slotN 5 a' < N - slotN 5 a) (Exit.inBlock 0 Q))))) a2 w2 := by
      intro a2 w2 h2
      refine wpIn_cond (t := false) (by rw [eval_tmp]; exact h2.kn (58, .bool false) (by simp)) (wpIn_skip ?_)
      refine wpIn_seq (n11 n B r N i X Y Z (some ⟨g, off, none⟩) N cap (fun q => GN W0 X Y Z N g off cap r B A (W0.heap.size + 1) q (sidesQ X Y Z i)) (fun w h => boxs5 (fun _ h => h) h rfl) (fun w h => boxs5 (fun _ h => h) h rfl) (fun w h => boxs5 (fun _ h => h) h rfl) (fun w h => boxs5 (fun _ h => h) h rfl) (fun m w' hh => ?_) _ a2 w2 (h2.sub (by simp)) ?_)
      · refine (sides_law m X Y Z i (.slice (some ⟨g, off, none⟩) N cap) w' h.x h.y h.z (by rw [← h.n]; exact hlt) (by rw [← h.n]; exact hN)).mono ?_
        rintro e w'' ⟨q, rfl, hb, ho⟩
        exact ⟨q, rfl, hh.below hb, ownsRow_mono ho (by have := hh.bel.size; omega)⟩
      · intro q a3 w3 h3
        have hG3 := h3.wp
        refine wpIn_seq (n12 n w3 B r N i q _ a3 h3.sr ?_)
        intro a4 h4
        refine near_inner n h hlt a4 w3 (h4.sg hG3) _ ?_
        intro a5 w5 h5
        show (regOf 8 C5).wpIn _ _ _ _ _ _
        have hG5 := h5.wp
        refine n8 n w5 B r N i (by omega) _ a5 h5.sr ?_
        intro a6 h6
        have h6 : SG (A5 B r N (i + 1)) 115 (Has W0 (bs5 X Y Z N g off cap r B A)) a6 w5 := h6.sg hG5
        exact ⟨⟨i + 1, hlt, h6⟩, by rw [e5, h6.slot (t := 5) (v := i + 1) (k := .i64) (by simp)]; omega⟩
    refine wpIn_seq (wpIn_seq ?_)
    cases ec : clA A i with
    | true =>
      rw [ec] at ho
      exact n9t n (Has.stable _ _) B r N i g off cap (kd A i) (lv A i) ((skyL X Y Z (clA A)).getD i 0) ((lampL X Y Z (clA A) (lmA A)).getD i 0) hlt (s15 i) (l15 i)
        (fun w h' => lights5 (fun _ h => h) h' (pair_sky _ _ hlt)) (fun w h' => lights5 (fun _ h => h) h' (pair_lamp _ _ hlt)) (fun w h' => boxs5 (fun _ h => h) h' rfl) (fun w h' => h'.old h.row.lt (h.row.kind hlt)) (fun w h' => h'.old h.row.lt (h.row.level hlt)) ho _ a1 w (h1.sub (by simp)) rest
    | false =>
      rw [ec] at ho
      have es : (pairsV (skyL X Y Z (clA A)) (lampL X Y Z (clA A) (lmA A)) N N)[i * 2]? = some (.int .u8 0) := by rw [pair_sky _ _ hlt, show (skyL X Y Z (clA A)).getD i 0 = 0 from sfx.dark hlt ec]; rfl
      have el : (pairsV (skyL X Y Z (clA A)) (lampL X Y Z (clA A) (lmA A)) N N)[i * 2 + 1]? = some (.int .u8 0) := by rw [pair_lamp _ _ hlt, show (lampL X Y Z (clA A) (lmA A)).getD i 0 = 0 from lfx.dark hlt ec]; rfl
      exact n9f n (Has.stable _ _) B r N i g off cap (kd A i) (lv A i) hlt (fun w h' => lights5 (fun _ h => h) h' es) (fun w h' => lights5 (fun _ h => h) h' el) (fun w h' => boxs5 (fun _ h => h) h' rfl) (fun w h' => h'.old h.row.lt (h.row.kind hlt)) (fun w h' => h'.old h.row.lt (h.row.level hlt)) ho _ a1 w (h1.sub (by simp)) rest
  · rw [decide_eq_false hlt]
    refine wpIn_exit ?_
    exact hQ a1 w (h1.sub (by simp))
end
set_option maxHeartbeats 1000000 in
theorem near_in (n M : Nat) (W0 : World) (X Y Z : Int) (sv : Value) (hs : Sx.SlIn W0 [.u8, .u8] M sv) : CallsIn Fence.wide n Try.prog 5 #[.agg #[.int .i64 X, .int .i64 Y, .int .i64 Z, sv]] W0 fun e w' => e = .returned (.bool true) ∧ Below W0.heap.size W0 w' := by
  obtain ⟨o, len, c, rfl⟩ : ∃ o len c, sv = .slice o len c := by cases hs <;> exact ⟨_, _, _, rfl⟩
  refine callsIn_of_wp Try.func5 rfl trivial ?_
  show C5.wpIn _ _ _ _ _ _
  rw [C5_eq]
  refine wpIn_seq ?_
  refine n0 n W0 X Y Z (.slice o len c) _ _ ⟨by simp [Try.ntmps5], rfl, by simp [Try.ntmps5], rfl⟩ ?_
  intro a1 h1
  have hH := (Has.start W0).alloc (.cells #[.int .i64 X, .int .i64 Y, .int .i64 Z, .slice o len c] 24)
  generalize W0.alloc (.cells #[.int .i64 X, .int .i64 Y, .int .i64 Z, .slice o len c] 24) = W1 at h1 hH ⊢
  obtain ⟨B, hB⟩ : ∃ B, B = W0.heap.size := ⟨_, rfl⟩
  rw [← hB] at h1 hH
  have ret : ∀ bs a w, SG [(2, .bool true)] 115 (Has W0 bs) a w → bodyPost Try.prog Try.f5 (fun e w' => e = .returned (.bool true) ∧ Below W0.heap.size W0 w') .ret a w := fun bs a w h =>
    ⟨h.defers, _, results_tmp (t := 2) rfl _ _ _, by rw [Array.getD_eq_getD_getElem?, h.kn (2, .bool true) (by simp)], h.wp.bel⟩
  have cB : ∀ {w}, Has W0 [(B, .cells #[.int .i64 X, .int .i64 Y, .int .i64 Z, .slice o len c] 24 (0, 0))] w → ∀ {k v}, (#[.int .i64 X, .int .i64 Y, .int .i64 Z, .slice o len c] : Array Value)[k]? = some v → w.cell? ⟨B, k, none⟩ = some v := fun hh _ _ hv => hh.cell (t := 24) (fr := (0, 0)) (by simp) hv
  refine wpIn_seq (wpIn_seq (n1 n W1 B o len c (cB hH rfl) _ a1 h1 ?_))
  intro a2 h2
  have h2 := h2.sg hH
  by_cases hl : (6000 : Int) < len
  · refine wpIn_cond (t := true) (by rw [eval_tmp, h2.kn (12, .bool (decide ((6000 : Int) < len))) (by simp)]; simp; omega) ?_
    refine wpIn_seq (n2 n (Has.stable _ _) (fun m w _ => works_in m w) _ a2 W1 (h2.sub (by simp)) ?_)
    intro a3 w3 h3
    exact wpIn_ret (ret _ a3 w3 h3)
  refine wpIn_cond (t := false) (by rw [eval_tmp, h2.kn (12, .bool (decide ((6000 : Int) < len))) (by simp)]; simp; omega) (wpIn_skip ?_)
  by_cases hc : chk X Y Z len = 0
  · obtain ⟨x, y, z, g, off, A, rfl, rfl, rfl, rfl, h⟩ := arg_of hs hc
    refine wpIn_seq (n3 n B x y z (some ⟨g, off, none⟩) len c len (fun r => Has W0 (bs5 x y z len g off c r B A)) (fun w h => cB h rfl) (fun w h => cB h rfl) (fun w h => cB h rfl) (fun w h => cB h rfl)
      (fun m w hh => light_has m (h.row.old hh) h.x h.y h.z h.n h.le hh) _ a2 W1 (h2.sub (by simp)) ?_)
    intro r a3 w3 h3
    have hG3 := h3.wp
    refine wpIn_seq (wpIn_seq (n4g n w3 B r len 0 _ a3 h3.sr ?_))
    intro a4 h4
    refine wpIn_cond (t := false) (by rw [eval_tmp]; exact h4.kn (20, .bool ((0 : Int) != 0)) (by simp)) (wpIn_skip ?_)
    refine wpIn_seq (wpIn_seq (n6 n w3 B r len _ a4 (h4.sub (by simp)) ?_))
    intro a5 h5
    refine near_loop n h a5 w3 (h5.sg hG3) _ ?_
    intro a6 w6 h6
    refine wpIn_seq (n18 n (Has.stable _ _) (fun m w _ => works_in m w) _ a6 w6 h6 ?_)
    intro a7 w7 h7
    exact wpIn_ret (ret _ a7 w7 h7)
  · refine wpIn_seq (n3b n (Has.stable _ _) B X Y Z o len c (chk X Y Z len) (fun w h => cB h rfl) (fun w h => cB h rfl) (fun w h => cB h rfl) (fun w h => cB h rfl) (fun m w _ => light_bad m X Y Z o len c w hc) _ a2 W1 (h2.sub (by simp)) ?_)
    intro a3 w3 h3
    have hG3 := h3.wp
    refine wpIn_seq (wpIn_seq (n4 n w3 B (chk X Y Z len) _ a3 h3.sr ?_))
    intro a4 h4
    refine wpIn_cond (t := true) (by rw [eval_tmp, h4.kn (20, .bool (chk X Y Z len != 0)) (by simp)]; simp [hc]) ?_
    refine wpIn_seq (n5 n (Has.stable _ _) (fun m w _ => works_in m w) _ a4 w3 ((h4.sg hG3).sub (by simp)) ?_)
    intro a5 w5 h5
    exact wpIn_ret (ret _ a5 w5 h5)
end Go.Proofs.Ytmgiabehooghcaa
