/- Glow: the walk of a law. -/
import Derived.RangeFuncNested
import Derived.RangeFuncBound
import Derived.RangeFuncCalls
import Derived.RangeFuncLeaves
import Derived.Shelf.Abstract
import Derived.Shelf.RegionOpen
import Derived.WalkKit
import Derived.OwnWalkIn
import Derived.TacticsInMore
import Derived.LoopNIn
import Derived.LoopIn
import Derived.Lib.Hide
import Derived.IntWalk
import Derived.Maps.AppendAt
import Derived.Test.YtigblagodlfedaaHand
import Derived.DeepKeys
import Derived.Laws.CopyOwn
import Derived.Test.YtigblagodlfedaaK5
set_option linter.unusedVariables false
set_option linter.unusedSimpArgs false
namespace Go.Proofs.Ytigblagodlfedaa
open Go.RowKit Go.Shelf
attribute [local go_sem] Oper.semAt_some

noncomputable def C11 : Code := Try.f11.body.getD .skip
set_option maxRecDepth 100000 in
set_option maxHeartbeats 4000000 in
theorem aw0 (n : Nat) (W : World)  (Q : Exit → Act → World → Prop) (a : Act) (h0 : SR [] 24 [] W a W)
    (hQ : ∀ a, SR [] 24 [] (W) a (W) → Q .normal a (W)) : (regOf 0 C11).wpIn Fence.wide n Try.prog Q a W := by
  simp only [regOf, C11, Try.f11, Option.getD, Nat.reduceBEq, Bool.false_eq_true, if_true, if_false]
  refine region_sq (fun k_ a w => match k_ with | 0 => SR [] 24 [] (W) a w | _ => SR [] 24 [] (W) a w) (show SR _ _ _ _ a W from h0) ⟨?_, trivial⟩ ?_
  · intro a w hI
    have hI : SR _ _ _ _ a w := hI
    have hw : w = W := hI.wp
    subst hw
    go_simp
    exact hI.put (d := 0) (by decide) (by simp)
  · intro a w hI
    have hI : SR _ _ _ _ a w := hI
    have hw : w = W := hI.wp
    subst hw
    exact hQ a hI
set_option maxRecDepth 100000 in
set_option maxHeartbeats 8000000 in
theorem aw1 (n : Nat) {G : World → Prop}  {G1 : Nat → World → Prop} (hS1 : ∀ r : Nat, Stable (G1 r)) (hn : ∀ (m : Nat) (w : World), G w → CallsIn Fence.wide m Try.prog 25 #[] w fun e w' => ∃ r, e = .returned (.pointer (some ⟨r, 0, none⟩)) ∧ G1 r w') (hm : ∀ (r : Nat) (m : Nat) (w : World), (G1 r) w → CallsIn Fence.wide m Try.prog 13 #[.pointer (some ⟨r, 0, none⟩), .agg #[.int .i64 0, .int .i64 0, .int .i64 0]] w fun e w' => e = .returned (.tuple #[.int .i64 (-3840), .int .i64 0]) ∧ Below w.heap.size w w') (Q : Exit → Act → World → Prop) (a : Act) (w : World) (h0 : SG [] 24 G a w)
    (hQ : ∀ (r : Nat) a w, SG [(1, .int .i64 (-3840)), (2, .int .i64 0)] 24 (G1 r) a w → Q .normal a w) : (regOf 1 C11).wpIn Fence.wide n Try.prog Q a w := by
  simp only [regOf, C11, Try.f11, Option.getD, Nat.reduceBEq, Bool.false_eq_true, if_true, if_false]
  refine region_sq (fun k_ a w => match k_ with | 0 => SG [] 24 G a w | 1 => ∃ r, SG [(4, .pointer (some ⟨r, 0, none⟩))] 24 (G1 r) a w | 2 => ∃ r, SG [(4, .pointer (some ⟨r, 0, none⟩)), (5, .agg #[.int .i64 0, .int .i64 0, .int .i64 0])] 24 (G1 r) a w | 3 => ∃ r, SG [(6, .tuple #[.int .i64 (-3840), .int .i64 0])] 24 (G1 r) a w | 4 => ∃ r, SG [(3, .tuple #[.int .i64 (-3840), .int .i64 0])] 24 (G1 r) a w | 5 => ∃ r, SG [(3, .tuple #[.int .i64 (-3840), .int .i64 0]), (7, .int .i64 (-3840))] 24 (G1 r) a w | 6 => ∃ r, SG [(7, .int .i64 (-3840)), (8, .int .i64 0)] 24 (G1 r) a w | 7 => ∃ r, SG [(8, .int .i64 0), (1, .int .i64 (-3840))] 24 (G1 r) a w | _ => ∃ r, SG [(1, .int .i64 (-3840)), (2, .int .i64 0)] 24 (G1 r) a w) (show SG _ _ G a w from h0) ⟨?_, ?_, ?_, ?_, ?_, ?_, ?_, ?_, trivial⟩ ?_
  · intro a w hI
    have hI : SG _ _ _ a w := hI
    go_simp
    refine ⟨trivial, fun h => (by cases h), (hn (n - 1) w hI.wp).mono ?_⟩
    rintro e w' ⟨r, rfl, hg2⟩
    exact ⟨r, hI.put (d := 4) (by decide) (by simp) hg2⟩
  · rintro a w ⟨r, hI⟩
    go_simp
    exact ⟨r, hI.put (d := 5) (by decide) (by simp) hI.wp⟩
  · rintro a w ⟨r, hI⟩
    have e4 := hI.g 4 rfl
    have e5 := hI.g 5 rfl
    go_simp
    refine ⟨trivial, fun h => (by cases h), (hm r (n - 1) w hI.wp).mono ?_⟩
    rintro e w' ⟨rfl, hb2⟩
    exact ⟨r, hI.put (d := 6) (by decide) (by simp) (hS1 r _ _ hI.wp hb2)⟩
  · rintro a w ⟨r, hI⟩
    have e6 := hI.g 6 rfl
    go_simp
    exact ⟨r, hI.put (d := 3) (by decide) (by simp) hI.wp⟩
  · rintro a w ⟨r, hI⟩
    have e3 := hI.g 3 rfl
    go_simp
    exact ⟨r, hI.put (d := 7) (by decide) (by simp) hI.wp⟩
  · rintro a w ⟨r, hI⟩
    have e3 := hI.g 3 rfl
    go_simp
    exact ⟨r, hI.put (d := 8) (by decide) (by simp) hI.wp⟩
  · rintro a w ⟨r, hI⟩
    have e7 := hI.g 7 rfl
    go_simp
    exact ⟨r, hI.put (d := 1) (by decide) (by simp) hI.wp⟩
  · rintro a w ⟨r, hI⟩
    have e8 := hI.g 8 rfl
    go_simp
    exact ⟨r, hI.put (d := 2) (by decide) (by simp) hI.wp⟩
  · rintro a w ⟨r, hI⟩
    exact hQ r a w hI
set_option maxRecDepth 100000 in
set_option maxHeartbeats 4000000 in
theorem aw2 (n : Nat) {G : World → Prop} (hS : Stable G)  (ht : ∀ m w, G w → CallsIn Fence.wide m Try.prog 23 #[.int .i64 5, .int .i64 2, .int .i64 1, .int .i64 3, .int .i64 1, .bool true] w fun e w' => e = .returned (.bool true) ∧ Below w.heap.size w w') (hv : ∀ m w, G w → CallsIn Fence.wide m Try.prog 9 #[.agg #[.int .u8 0, .int .u8 0], .agg #[.int .u8 2, .int .u8 0]] w fun e w' => e = .returned (.int .i64 1) ∧ Below w.heap.size w w') (Q : Exit → Act → World → Prop) (a : Act) (w : World) (h0 : SG [(1, .int .i64 (-3840)), (2, .int .i64 0)] 24 G a w)
    (hQ : ∀ a w, SG [(0, .bool true)] 24 G a w → Q .normal a w) : (regOf 2 C11).wpIn Fence.wide n Try.prog Q a w := by
  simp only [regOf, C11, Try.f11, Option.getD, Nat.reduceBEq, Bool.false_eq_true, if_true, if_false]
  refine region_sq (fun k_ a w => match k_ with | 0 => SG [(1, .int .i64 (-3840)), (2, .int .i64 0)] 24 G a w | 1 => SG [(1, .int .i64 (-3840)), (2, .int .i64 0), (9, .bool true)] 24 G a w | 2 => SG [(1, .int .i64 (-3840)), (2, .int .i64 0), (10, .bool true)] 24 G a w | 3 => SG [(2, .int .i64 0), (10, .bool true), (11, .int .i64 (-3840))] 24 G a w | 4 => SG [(2, .int .i64 0), (10, .bool true), (12, .bool true)] 24 G a w | 5 => SG [(2, .int .i64 0), (13, .bool true)] 24 G a w | 6 => SG [(2, .int .i64 0), (14, .bool true)] 24 G a w | 7 => SG [(14, .bool true), (15, .int .i64 0)] 24 G a w | 8 => SG [(14, .bool true), (16, .bool true)] 24 G a w | 9 => SG [(17, .bool true)] 24 G a w | 10 => SG [(18, .bool true)] 24 G a w | 11 => SG [(18, .bool true), (19, .agg #[.int .u8 0, .int .u8 0])] 24 G a w | 12 => SG [(18, .bool true), (19, .agg #[.int .u8 0, .int .u8 0]), (20, .agg #[.int .u8 2, .int .u8 0])] 24 G a w | 13 => SG [(18, .bool true), (21, .int .i64 1)] 24 G a w | 14 => SG [(18, .bool true), (22, .bool true)] 24 G a w | 15 => SG [(23, .bool true)] 24 G a w | _ => SG [(0, .bool true)] 24 G a w) (show SG _ _ G a w from h0) ⟨?_, ?_, ?_, ?_, ?_, ?_, ?_, ?_, ?_, ?_, ?_, ?_, ?_, ?_, ?_, ?_, trivial⟩ ?_
  · intro a w hI
    have hI : SG _ _ G a w := hI
    go_simp
    refine ⟨trivial, fun h => (by cases h), (ht (n - 1) w hI.wp).mono ?_⟩
    rintro e w' ⟨rfl, hb2⟩
    exact hI.put (d := 9) (by decide) (by simp) (hS _ _ hI.wp hb2)
  · intro a w hI
    have hI : SG _ _ G a w := hI
    have e9 := hI.g 9 rfl
    go_simp
    exact hI.put (d := 10) (by decide) (by simp) hI.wp
  · intro a w hI
    have hI : SG _ _ G a w := hI
    have e1 := hI.g 1 rfl
    have e10 := hI.g 10 rfl
    have f10 := slot_bool e10
    go_simp
    exact hI.put (d := 11) (by decide) (by simp) hI.wp
  · intro a w hI
    have hI : SG _ _ G a w := hI
    have e11 := hI.g 11 rfl
    have e10 := hI.g 10 rfl
    have f10 := slot_bool e10
    go_simp
    exact hI.put (d := 12) (by decide) (by simp) hI.wp
  · intro a w hI
    have hI : SG _ _ G a w := hI
    have e10 := hI.g 10 rfl
    have e12 := hI.g 12 rfl
    go_simp
    exact hI.put (d := 13) (by decide) (by simp) hI.wp
  · intro a w hI
    have hI : SG _ _ G a w := hI
    have e13 := hI.g 13 rfl
    go_simp
    exact hI.put (d := 14) (by decide) (by simp) hI.wp
  · intro a w hI
    have hI : SG _ _ G a w := hI
    have e2 := hI.g 2 rfl
    have e14 := hI.g 14 rfl
    have f14 := slot_bool e14
    go_simp
    exact hI.put (d := 15) (by decide) (by simp) hI.wp
  · intro a w hI
    have hI : SG _ _ G a w := hI
    have e15 := hI.g 15 rfl
    have e14 := hI.g 14 rfl
    have f14 := slot_bool e14
    go_simp
    exact hI.put (d := 16) (by decide) (by simp) hI.wp
  · intro a w hI
    have hI : SG _ _ G a w := hI
    have e14 := hI.g 14 rfl
    have e16 := hI.g 16 rfl
    go_simp
    exact hI.put (d := 17) (by decide) (by simp) hI.wp
  · intro a w hI
    have hI : SG _ _ G a w := hI
    have e17 := hI.g 17 rfl
    go_simp
    exact hI.put (d := 18) (by decide) (by simp) hI.wp
  · intro a w hI
    have hI : SG _ _ G a w := hI
    have e18 := hI.g 18 rfl
    have f18 := slot_bool e18
    go_simp
    exact hI.put (d := 19) (by decide) (by simp) hI.wp
  · intro a w hI
    have hI : SG _ _ G a w := hI
    have e18 := hI.g 18 rfl
    have f18 := slot_bool e18
    go_simp
    exact hI.put (d := 20) (by decide) (by simp) hI.wp
  · intro a w hI
    have hI : SG _ _ G a w := hI
    have e19 := hI.g 19 rfl
    have e20 := hI.g 20 rfl
    have e18 := hI.g 18 rfl
    have f18 := slot_bool e18
    go_simp
    refine ⟨trivial, fun h => (by cases h), (hv (n - 1) w hI.wp).mono ?_⟩
    rintro e w' ⟨rfl, hb2⟩
    exact hI.put (d := 21) (by decide) (by simp) (hS _ _ hI.wp hb2)
  · intro a w hI
    have hI : SG _ _ G a w := hI
    have e21 := hI.g 21 rfl
    have e18 := hI.g 18 rfl
    have f18 := slot_bool e18
    go_simp
    exact hI.put (d := 22) (by decide) (by simp) hI.wp
  · intro a w hI
    have hI : SG _ _ G a w := hI
    have e18 := hI.g 18 rfl
    have e22 := hI.g 22 rfl
    go_simp
    exact hI.put (d := 23) (by decide) (by simp) hI.wp
  · intro a w hI
    have hI : SG _ _ G a w := hI
    have e23 := hI.g 23 rfl
    go_simp
    exact hI.put (d := 0) (by decide) (by simp) hI.wp
  · intro a w hI
    have hI : SG _ _ G a w := hI
    exact hQ a w hI
noncomputable def C6 : Code := Try.f6.body.getD .skip
set_option maxRecDepth 100000 in
set_option maxHeartbeats 4000000 in
theorem kn0 (n : Nat) (W : World)  (Q : Exit → Act → World → Prop) (a : Act) (h0 : SR [] 193 [] W a W)
    (hQ : ∀ a, SR [] 193 [] (W) a (W) → Q .normal a (W)) : (regOf 0 C6).wpIn Fence.wide n Try.prog Q a W := by
  simp only [regOf, C6, Try.f6, Option.getD, Nat.reduceBEq, Bool.false_eq_true, if_true, if_false]
  refine region_sq (fun k_ a w => match k_ with | 0 => SR [] 193 [] (W) a w | _ => SR [] 193 [] (W) a w) (show SR _ _ _ _ a W from h0) ⟨?_, trivial⟩ ?_
  · intro a w hI
    have hI : SR _ _ _ _ a w := hI
    have hw : w = W := hI.wp
    subst hw
    go_simp
    exact hI.put (d := 0) (by decide) (by simp)
  · intro a w hI
    have hI : SR _ _ _ _ a w := hI
    have hw : w = W := hI.wp
    subst hw
    exact hQ a hI
set_option maxRecDepth 100000 in
set_option maxHeartbeats 4000000 in
theorem kn1 (n : Nat) {G : World → Prop} (hS : Stable G)  (ha : ∀ m w, G w → CallsIn Fence.wide m Try.prog 11 #[] w fun e w' => e = .returned (.bool true) ∧ Below w.heap.size w w') (t2 : ∀ m w, G w → CallsIn Fence.wide m Try.prog 23 #[.int .i64 9223372036854775807, .int .i64 0, .int .i64 1, .int .i64 1, .int .i64 9223372036854775807, .bool true] w fun e w' => e = .returned (.bool true) ∧ Below w.heap.size w w') (t3 : ∀ m w, G w → CallsIn Fence.wide m Try.prog 23 #[.int .i64 9223372036854775807, .int .i64 0, .int .i64 1, .int .i64 0, .int .i64 0, .bool false] w fun e w' => e = .returned (.bool true) ∧ Below w.heap.size w w') (t4 : ∀ m w, G w → CallsIn Fence.wide m Try.prog 23 #[.int .i64 0, .int .i64 (-9223372036854775808), .int .i64 0, .int .i64 0, .int .i64 0, .bool false] w fun e w' => e = .returned (.bool true) ∧ Below w.heap.size w w') (t5 : ∀ m w, G w → CallsIn Fence.wide m Try.prog 23 #[.int .i64 (-9223372036854775808), .int .i64 0, .int .i64 0, .int .i64 0, .int .i64 (-9223372036854775808), .bool true] w fun e w' => e = .returned (.bool true) ∧ Below w.heap.size w w') (t6 : ∀ m w, G w → CallsIn Fence.wide m Try.prog 23 #[.int .i64 (-9223372036854775808), .int .i64 1, .int .i64 0, .int .i64 0, .int .i64 0, .bool false] w fun e w' => e = .returned (.bool true) ∧ Below w.heap.size w w') (t7 : ∀ m w, G w → CallsIn Fence.wide m Try.prog 23 #[.int .i64 9223372036854775807, .int .i64 (-9223372036854775808), .int .i64 9223372036854775807, .int .i64 (-9223372036854775808), .int .i64 0, .bool false] w fun e w' => e = .returned (.bool true) ∧ Below w.heap.size w w') (Q : Exit → Act → World → Prop) (a : Act) (w : World) (h0 : SG [] 193 G a w)
    (hQ : ∀ a w, SG [(39, .bool false)] 193 G a w → Q .normal a w) : (regOf 1 C6).wpIn Fence.wide n Try.prog Q a w := by
  simp only [regOf, C6, Try.f6, Option.getD, Nat.reduceBEq, Bool.false_eq_true, if_true, if_false]
  refine region_sq (fun k_ a w => match k_ with | 0 => SG [] 193 G a w | 1 => SG [(14, .bool true)] 193 G a w | 2 => SG [(15, .bool false)] 193 G a w | 3 => SG [(16, .bool false)] 193 G a w | 4 => SG [(16, .bool false), (17, .bool true)] 193 G a w | 5 => SG [(16, .bool false), (18, .bool false)] 193 G a w | 6 => SG [(19, .bool false)] 193 G a w | 7 => SG [(20, .bool false)] 193 G a w | 8 => SG [(20, .bool false), (21, .bool true)] 193 G a w | 9 => SG [(20, .bool false), (22, .bool false)] 193 G a w | 10 => SG [(23, .bool false)] 193 G a w | 11 => SG [(24, .bool false)] 193 G a w | 12 => SG [(24, .bool false), (25, .bool true)] 193 G a w | 13 => SG [(24, .bool false), (26, .bool false)] 193 G a w | 14 => SG [(27, .bool false)] 193 G a w | 15 => SG [(28, .bool false)] 193 G a w | 16 => SG [(28, .bool false), (29, .bool true)] 193 G a w | 17 => SG [(28, .bool false), (30, .bool false)] 193 G a w | 18 => SG [(31, .bool false)] 193 G a w | 19 => SG [(32, .bool false)] 193 G a w | 20 => SG [(32, .bool false), (33, .bool true)] 193 G a w | 21 => SG [(32, .bool false), (34, .bool false)] 193 G a w | 22 => SG [(35, .bool false)] 193 G a w | 23 => SG [(36, .bool false)] 193 G a w | 24 => SG [(36, .bool false), (37, .bool true)] 193 G a w | 25 => SG [(36, .bool false), (38, .bool false)] 193 G a w | _ => SG [(39, .bool false)] 193 G a w) (show SG _ _ G a w from h0) ⟨?_, ?_, ?_, ?_, ?_, ?_, ?_, ?_, ?_, ?_, ?_, ?_, ?_, ?_, ?_, ?_, ?_, ?_, ?_, ?_, ?_, ?_, ?_, ?_, ?_, ?_, trivial⟩ ?_
  · intro a w hI
    have hI : SG _ _ G a w := hI
    go_simp
    refine ⟨trivial, fun h => (by cases h), (ha (n - 1) w hI.wp).mono ?_⟩
    rintro e w' ⟨rfl, hb2⟩
    exact hI.put (d := 14) (by decide) (by simp) (hS _ _ hI.wp hb2)
  · intro a w hI
    have hI : SG _ _ G a w := hI
    have e14 := hI.g 14 rfl
    go_simp
    exact hI.put (d := 15) (by decide) (by simp) hI.wp
  · intro a w hI
    have hI : SG _ _ G a w := hI
    have e15 := hI.g 15 rfl
    go_simp
    exact hI.put (d := 16) (by decide) (by simp) hI.wp
  · intro a w hI
    have hI : SG _ _ G a w := hI
    have e16 := hI.g 16 rfl
    have f16 := slot_bool e16
    go_simp
    refine ⟨trivial, fun h => (by cases h), (t2 (n - 1) w hI.wp).mono ?_⟩
    rintro e w' ⟨rfl, hb2⟩
    exact hI.put (d := 17) (by decide) (by simp) (hS _ _ hI.wp hb2)
  · intro a w hI
    have hI : SG _ _ G a w := hI
    have e17 := hI.g 17 rfl
    have e16 := hI.g 16 rfl
    have f16 := slot_bool e16
    go_simp
    exact hI.put (d := 18) (by decide) (by simp) hI.wp
  · intro a w hI
    have hI : SG _ _ G a w := hI
    have e16 := hI.g 16 rfl
    have e18 := hI.g 18 rfl
    go_simp
    exact hI.put (d := 19) (by decide) (by simp) hI.wp
  · intro a w hI
    have hI : SG _ _ G a w := hI
    have e19 := hI.g 19 rfl
    go_simp
    exact hI.put (d := 20) (by decide) (by simp) hI.wp
  · intro a w hI
    have hI : SG _ _ G a w := hI
    have e20 := hI.g 20 rfl
    have f20 := slot_bool e20
    go_simp
    refine ⟨trivial, fun h => (by cases h), (t3 (n - 1) w hI.wp).mono ?_⟩
    rintro e w' ⟨rfl, hb2⟩
    exact hI.put (d := 21) (by decide) (by simp) (hS _ _ hI.wp hb2)
  · intro a w hI
    have hI : SG _ _ G a w := hI
    have e21 := hI.g 21 rfl
    have e20 := hI.g 20 rfl
    have f20 := slot_bool e20
    go_simp
    exact hI.put (d := 22) (by decide) (by simp) hI.wp
  · intro a w hI
    have hI : SG _ _ G a w := hI
    have e20 := hI.g 20 rfl
    have e22 := hI.g 22 rfl
    go_simp
    exact hI.put (d := 23) (by decide) (by simp) hI.wp
  · intro a w hI
    have hI : SG _ _ G a w := hI
    have e23 := hI.g 23 rfl
    go_simp
    exact hI.put (d := 24) (by decide) (by simp) hI.wp
  · intro a w hI
    have hI : SG _ _ G a w := hI
    have e24 := hI.g 24 rfl
    have f24 := slot_bool e24
    go_simp
    refine ⟨trivial, fun h => (by cases h), (t4 (n - 1) w hI.wp).mono ?_⟩
    rintro e w' ⟨rfl, hb2⟩
    exact hI.put (d := 25) (by decide) (by simp) (hS _ _ hI.wp hb2)
  · intro a w hI
    have hI : SG _ _ G a w := hI
    have e25 := hI.g 25 rfl
    have e24 := hI.g 24 rfl
    have f24 := slot_bool e24
    go_simp
    exact hI.put (d := 26) (by decide) (by simp) hI.wp
  · intro a w hI
    have hI : SG _ _ G a w := hI
    have e24 := hI.g 24 rfl
    have e26 := hI.g 26 rfl
    go_simp
    exact hI.put (d := 27) (by decide) (by simp) hI.wp
  · intro a w hI
    have hI : SG _ _ G a w := hI
    have e27 := hI.g 27 rfl
    go_simp
    exact hI.put (d := 28) (by decide) (by simp) hI.wp
  · intro a w hI
    have hI : SG _ _ G a w := hI
    have e28 := hI.g 28 rfl
    have f28 := slot_bool e28
    go_simp
    refine ⟨trivial, fun h => (by cases h), (t5 (n - 1) w hI.wp).mono ?_⟩
    rintro e w' ⟨rfl, hb2⟩
    exact hI.put (d := 29) (by decide) (by simp) (hS _ _ hI.wp hb2)
  · intro a w hI
    have hI : SG _ _ G a w := hI
    have e29 := hI.g 29 rfl
    have e28 := hI.g 28 rfl
    have f28 := slot_bool e28
    go_simp
    exact hI.put (d := 30) (by decide) (by simp) hI.wp
  · intro a w hI
    have hI : SG _ _ G a w := hI
    have e28 := hI.g 28 rfl
    have e30 := hI.g 30 rfl
    go_simp
    exact hI.put (d := 31) (by decide) (by simp) hI.wp
  · intro a w hI
    have hI : SG _ _ G a w := hI
    have e31 := hI.g 31 rfl
    go_simp
    exact hI.put (d := 32) (by decide) (by simp) hI.wp
  · intro a w hI
    have hI : SG _ _ G a w := hI
    have e32 := hI.g 32 rfl
    have f32 := slot_bool e32
    go_simp
    refine ⟨trivial, fun h => (by cases h), (t6 (n - 1) w hI.wp).mono ?_⟩
    rintro e w' ⟨rfl, hb2⟩
    exact hI.put (d := 33) (by decide) (by simp) (hS _ _ hI.wp hb2)
  · intro a w hI
    have hI : SG _ _ G a w := hI
    have e33 := hI.g 33 rfl
    have e32 := hI.g 32 rfl
    have f32 := slot_bool e32
    go_simp
    exact hI.put (d := 34) (by decide) (by simp) hI.wp
  · intro a w hI
    have hI : SG _ _ G a w := hI
    have e32 := hI.g 32 rfl
    have e34 := hI.g 34 rfl
    go_simp
    exact hI.put (d := 35) (by decide) (by simp) hI.wp
  · intro a w hI
    have hI : SG _ _ G a w := hI
    have e35 := hI.g 35 rfl
    go_simp
    exact hI.put (d := 36) (by decide) (by simp) hI.wp
  · intro a w hI
    have hI : SG _ _ G a w := hI
    have e36 := hI.g 36 rfl
    have f36 := slot_bool e36
    go_simp
    refine ⟨trivial, fun h => (by cases h), (t7 (n - 1) w hI.wp).mono ?_⟩
    rintro e w' ⟨rfl, hb2⟩
    exact hI.put (d := 37) (by decide) (by simp) (hS _ _ hI.wp hb2)
  · intro a w hI
    have hI : SG _ _ G a w := hI
    have e37 := hI.g 37 rfl
    have e36 := hI.g 36 rfl
    have f36 := slot_bool e36
    go_simp
    exact hI.put (d := 38) (by decide) (by simp) hI.wp
  · intro a w hI
    have hI : SG _ _ G a w := hI
    have e36 := hI.g 36 rfl
    have e38 := hI.g 38 rfl
    go_simp
    exact hI.put (d := 39) (by decide) (by simp) hI.wp
  · intro a w hI
    have hI : SG _ _ G a w := hI
    exact hQ a w hI
set_option maxRecDepth 100000 in
set_option maxHeartbeats 8000000 in
theorem kn3 (n : Nat) {G : World → Prop}  {G1 : Nat → World → Prop} (hn : ∀ (m : Nat) (w : World), G w → CallsIn Fence.wide m Try.prog 24 #[.agg #[.int .i64 0, .int .i64 0, .int .i64 0]] w fun e w' => ∃ r, e = .returned (.tuple #[.pointer (some ⟨r, 0, none⟩), .bool true]) ∧ G1 r w') (Q : Exit → Act → World → Prop) (a : Act) (w : World) (h0 : SG [] 193 G a w)
    (hQ : ∀ (r : Nat) a w, SG [(1, .pointer (some ⟨r, 0, none⟩)), (2, .bool true)] 193 (G1 r) a w → Q .normal a w) : (regOf 3 C6).wpIn Fence.wide n Try.prog Q a w := by
  simp only [regOf, C6, Try.f6, Option.getD, Nat.reduceBEq, Bool.false_eq_true, if_true, if_false]
  refine region_sq (fun k_ a w => match k_ with | 0 => SG [] 193 G a w | 1 => SG [(41, .agg #[.int .i64 0, .int .i64 0, .int .i64 0])] 193 G a w | 2 => ∃ r, SG [(42, .tuple #[.pointer (some ⟨r, 0, none⟩), .bool true])] 193 (G1 r) a w | 3 => ∃ r, SG [(40, .tuple #[.pointer (some ⟨r, 0, none⟩), .bool true])] 193 (G1 r) a w | 4 => ∃ r, SG [(40, .tuple #[.pointer (some ⟨r, 0, none⟩), .bool true]), (43, .pointer (some ⟨r, 0, none⟩))] 193 (G1 r) a w | 5 => ∃ r, SG [(43, .pointer (some ⟨r, 0, none⟩)), (44, .bool true)] 193 (G1 r) a w | 6 => ∃ r, SG [(44, .bool true), (1, .pointer (some ⟨r, 0, none⟩))] 193 (G1 r) a w | _ => ∃ r, SG [(1, .pointer (some ⟨r, 0, none⟩)), (2, .bool true)] 193 (G1 r) a w) (show SG _ _ G a w from h0) ⟨?_, ?_, ?_, ?_, ?_, ?_, ?_, trivial⟩ ?_
  · intro a w hI
    have hI : SG _ _ _ a w := hI
    go_simp
    exact hI.put (d := 41) (by decide) (by simp) hI.wp
  · intro a w hI
    have hI : SG _ _ _ a w := hI
    have e41 := hI.g 41 rfl
    go_simp
    refine ⟨trivial, fun h => (by cases h), (hn (n - 1) w hI.wp).mono ?_⟩
    rintro e w' ⟨r, rfl, hg2⟩
    exact ⟨r, hI.put (d := 42) (by decide) (by simp) hg2⟩
  · rintro a w ⟨r, hI⟩
    have e42 := hI.g 42 rfl
    go_simp
    exact ⟨r, hI.put (d := 40) (by decide) (by simp) hI.wp⟩
  · rintro a w ⟨r, hI⟩
    have e40 := hI.g 40 rfl
    go_simp
    exact ⟨r, hI.put (d := 43) (by decide) (by simp) hI.wp⟩
  · rintro a w ⟨r, hI⟩
    have e40 := hI.g 40 rfl
    go_simp
    exact ⟨r, hI.put (d := 44) (by decide) (by simp) hI.wp⟩
  · rintro a w ⟨r, hI⟩
    have e43 := hI.g 43 rfl
    go_simp
    exact ⟨r, hI.put (d := 1) (by decide) (by simp) hI.wp⟩
  · rintro a w ⟨r, hI⟩
    have e44 := hI.g 44 rfl
    go_simp
    exact ⟨r, hI.put (d := 2) (by decide) (by simp) hI.wp⟩
  · rintro a w ⟨r, hI⟩
    exact hQ r a w hI
set_option maxRecDepth 100000 in
set_option maxHeartbeats 4000000 in
theorem kn4 (n : Nat) {G : World → Prop} (hS : Stable G) (r : Nat) (hc : ∀ m w, G w → CallsIn Fence.wide m Try.prog 13 #[.pointer (some ⟨r, 0, none⟩), .agg #[.int .i64 0, .int .i64 0, .int .i64 0]] w fun e w' => e = .returned (.tuple #[.int .i64 0, .int .i64 0]) ∧ Below w.heap.size w w') (Q : Exit → Act → World → Prop) (a : Act) (w : World) (h0 : SG [(1, .pointer (some ⟨r, 0, none⟩)), (2, .bool true)] 193 G a w)
    (hQ : ∀ a w, SG [(1, .pointer (some ⟨r, 0, none⟩)), (2, .bool true), (3, .int .i64 0), (4, .int .i64 0)] 193 G a w → Q .normal a w) : (regOf 4 C6).wpIn Fence.wide n Try.prog Q a w := by
  simp only [regOf, C6, Try.f6, Option.getD, Nat.reduceBEq, Bool.false_eq_true, if_true, if_false]
  refine region_sq (fun k_ a w => match k_ with | 0 => SG [(1, .pointer (some ⟨r, 0, none⟩)), (2, .bool true)] 193 G a w | 1 => SG [(1, .pointer (some ⟨r, 0, none⟩)), (2, .bool true), (46, .pointer (some ⟨r, 0, none⟩))] 193 G a w | 2 => SG [(1, .pointer (some ⟨r, 0, none⟩)), (2, .bool true), (46, .pointer (some ⟨r, 0, none⟩)), (47, .agg #[.int .i64 0, .int .i64 0, .int .i64 0])] 193 G a w | 3 => SG [(1, .pointer (some ⟨r, 0, none⟩)), (2, .bool true), (48, .tuple #[.int .i64 0, .int .i64 0])] 193 G a w | 4 => SG [(1, .pointer (some ⟨r, 0, none⟩)), (2, .bool true), (45, .tuple #[.int .i64 0, .int .i64 0])] 193 G a w | 5 => SG [(1, .pointer (some ⟨r, 0, none⟩)), (2, .bool true), (45, .tuple #[.int .i64 0, .int .i64 0]), (49, .int .i64 0)] 193 G a w | 6 => SG [(1, .pointer (some ⟨r, 0, none⟩)), (2, .bool true), (49, .int .i64 0), (50, .int .i64 0)] 193 G a w | 7 => SG [(1, .pointer (some ⟨r, 0, none⟩)), (2, .bool true), (50, .int .i64 0), (3, .int .i64 0)] 193 G a w | _ => SG [(1, .pointer (some ⟨r, 0, none⟩)), (2, .bool true), (3, .int .i64 0), (4, .int .i64 0)] 193 G a w) (show SG _ _ G a w from h0) ⟨?_, ?_, ?_, ?_, ?_, ?_, ?_, ?_, trivial⟩ ?_
  · intro a w hI
    have hI : SG _ _ G a w := hI
    have e1 := hI.g 1 rfl
    go_simp
    exact hI.put (d := 46) (by decide) (by simp) hI.wp
  · intro a w hI
    have hI : SG _ _ G a w := hI
    go_simp
    exact hI.put (d := 47) (by decide) (by simp) hI.wp
  · intro a w hI
    have hI : SG _ _ G a w := hI
    have e46 := hI.g 46 rfl
    have e47 := hI.g 47 rfl
    go_simp
    refine ⟨trivial, fun h => (by cases h), (hc (n - 1) w hI.wp).mono ?_⟩
    rintro e w' ⟨rfl, hb2⟩
    exact hI.put (d := 48) (by decide) (by simp) (hS _ _ hI.wp hb2)
  · intro a w hI
    have hI : SG _ _ G a w := hI
    have e48 := hI.g 48 rfl
    go_simp
    exact hI.put (d := 45) (by decide) (by simp) hI.wp
  · intro a w hI
    have hI : SG _ _ G a w := hI
    have e45 := hI.g 45 rfl
    go_simp
    exact hI.put (d := 49) (by decide) (by simp) hI.wp
  · intro a w hI
    have hI : SG _ _ G a w := hI
    have e45 := hI.g 45 rfl
    go_simp
    exact hI.put (d := 50) (by decide) (by simp) hI.wp
  · intro a w hI
    have hI : SG _ _ G a w := hI
    have e49 := hI.g 49 rfl
    go_simp
    exact hI.put (d := 3) (by decide) (by simp) hI.wp
  · intro a w hI
    have hI : SG _ _ G a w := hI
    have e50 := hI.g 50 rfl
    go_simp
    exact hI.put (d := 4) (by decide) (by simp) hI.wp
  · intro a w hI
    have hI : SG _ _ G a w := hI
    exact hQ a w hI
set_option maxRecDepth 100000 in
set_option maxHeartbeats 4000000 in
theorem kn5 (n : Nat) {G : World → Prop} (hS : Stable G) (r : Nat) (hc : ∀ m w, G w → CallsIn Fence.wide m Try.prog 13 #[.pointer (some ⟨r, 0, none⟩), .agg #[.int .i64 0, .int .i64 1, .int .i64 0]] w fun e w' => e = .returned (.tuple #[.int .i64 3840, .int .i64 0]) ∧ Below w.heap.size w w') (Q : Exit → Act → World → Prop) (a : Act) (w : World) (h0 : SG [(1, .pointer (some ⟨r, 0, none⟩)), (2, .bool true), (3, .int .i64 0), (4, .int .i64 0)] 193 G a w)
    (hQ : ∀ a w, SG [(1, .pointer (some ⟨r, 0, none⟩)), (2, .bool true), (3, .int .i64 0), (4, .int .i64 0), (5, .int .i64 3840), (6, .int .i64 0)] 193 G a w → Q .normal a w) : (regOf 5 C6).wpIn Fence.wide n Try.prog Q a w := by
  simp only [regOf, C6, Try.f6, Option.getD, Nat.reduceBEq, Bool.false_eq_true, if_true, if_false]
  refine region_sq (fun k_ a w => match k_ with | 0 => SG [(1, .pointer (some ⟨r, 0, none⟩)), (2, .bool true), (3, .int .i64 0), (4, .int .i64 0)] 193 G a w | 1 => SG [(1, .pointer (some ⟨r, 0, none⟩)), (2, .bool true), (3, .int .i64 0), (4, .int .i64 0), (52, .pointer (some ⟨r, 0, none⟩))] 193 G a w | 2 => SG [(1, .pointer (some ⟨r, 0, none⟩)), (2, .bool true), (3, .int .i64 0), (4, .int .i64 0), (52, .pointer (some ⟨r, 0, none⟩)), (53, .agg #[.int .i64 0, .int .i64 1, .int .i64 0])] 193 G a w | 3 => SG [(1, .pointer (some ⟨r, 0, none⟩)), (2, .bool true), (3, .int .i64 0), (4, .int .i64 0), (54, .tuple #[.int .i64 3840, .int .i64 0])] 193 G a w | 4 => SG [(1, .pointer (some ⟨r, 0, none⟩)), (2, .bool true), (3, .int .i64 0), (4, .int .i64 0), (51, .tuple #[.int .i64 3840, .int .i64 0])] 193 G a w | 5 => SG [(1, .pointer (some ⟨r, 0, none⟩)), (2, .bool true), (3, .int .i64 0), (4, .int .i64 0), (51, .tuple #[.int .i64 3840, .int .i64 0]), (55, .int .i64 3840)] 193 G a w | 6 => SG [(1, .pointer (some ⟨r, 0, none⟩)), (2, .bool true), (3, .int .i64 0), (4, .int .i64 0), (55, .int .i64 3840), (56, .int .i64 0)] 193 G a w | 7 => SG [(1, .pointer (some ⟨r, 0, none⟩)), (2, .bool true), (3, .int .i64 0), (4, .int .i64 0), (56, .int .i64 0), (5, .int .i64 3840)] 193 G a w | _ => SG [(1, .pointer (some ⟨r, 0, none⟩)), (2, .bool true), (3, .int .i64 0), (4, .int .i64 0), (5, .int .i64 3840), (6, .int .i64 0)] 193 G a w) (show SG _ _ G a w from h0) ⟨?_, ?_, ?_, ?_, ?_, ?_, ?_, ?_, trivial⟩ ?_
  · intro a w hI
    have hI : SG _ _ G a w := hI
    have e1 := hI.g 1 rfl
    go_simp
    exact hI.put (d := 52) (by decide) (by simp) hI.wp
  · intro a w hI
    have hI : SG _ _ G a w := hI
    go_simp
    exact hI.put (d := 53) (by decide) (by simp) hI.wp
  · intro a w hI
    have hI : SG _ _ G a w := hI
    have e52 := hI.g 52 rfl
    have e53 := hI.g 53 rfl
    go_simp
    refine ⟨trivial, fun h => (by cases h), (hc (n - 1) w hI.wp).mono ?_⟩
    rintro e w' ⟨rfl, hb2⟩
    exact hI.put (d := 54) (by decide) (by simp) (hS _ _ hI.wp hb2)
  · intro a w hI
    have hI : SG _ _ G a w := hI
    have e54 := hI.g 54 rfl
    go_simp
    exact hI.put (d := 51) (by decide) (by simp) hI.wp
  · intro a w hI
    have hI : SG _ _ G a w := hI
    have e51 := hI.g 51 rfl
    go_simp
    exact hI.put (d := 55) (by decide) (by simp) hI.wp
  · intro a w hI
    have hI : SG _ _ G a w := hI
    have e51 := hI.g 51 rfl
    go_simp
    exact hI.put (d := 56) (by decide) (by simp) hI.wp
  · intro a w hI
    have hI : SG _ _ G a w := hI
    have e55 := hI.g 55 rfl
    go_simp
    exact hI.put (d := 5) (by decide) (by simp) hI.wp
  · intro a w hI
    have hI : SG _ _ G a w := hI
    have e56 := hI.g 56 rfl
    go_simp
    exact hI.put (d := 6) (by decide) (by simp) hI.wp
  · intro a w hI
    have hI : SG _ _ G a w := hI
    exact hQ a w hI
set_option maxRecDepth 100000 in
set_option maxHeartbeats 4000000 in
theorem kn6 (n : Nat) {G : World → Prop} (hS : Stable G) (r : Nat) (hc : ∀ m w, G w → CallsIn Fence.wide m Try.prog 13 #[Value.pointer none, .agg #[.int .i64 0, .int .i64 0, .int .i64 0]] w fun e w' => e = .returned (.tuple #[.int .i64 0, .int .i64 1]) ∧ Below w.heap.size w w') (Q : Exit → Act → World → Prop) (a : Act) (w : World) (h0 : SG [(1, .pointer (some ⟨r, 0, none⟩)), (2, .bool true), (3, .int .i64 0), (4, .int .i64 0), (5, .int .i64 3840), (6, .int .i64 0)] 193 G a w)
    (hQ : ∀ a w, SG [(1, .pointer (some ⟨r, 0, none⟩)), (2, .bool true), (3, .int .i64 0), (4, .int .i64 0), (5, .int .i64 3840), (6, .int .i64 0), (8, .int .i64 1)] 193 G a w → Q .normal a w) : (regOf 6 C6).wpIn Fence.wide n Try.prog Q a w := by
  simp only [regOf, C6, Try.f6, Option.getD, Nat.reduceBEq, Bool.false_eq_true, if_true, if_false]
  refine region_sq (fun k_ a w => match k_ with | 0 => SG [(1, .pointer (some ⟨r, 0, none⟩)), (2, .bool true), (3, .int .i64 0), (4, .int .i64 0), (5, .int .i64 3840), (6, .int .i64 0)] 193 G a w | 1 => SG [(1, .pointer (some ⟨r, 0, none⟩)), (2, .bool true), (3, .int .i64 0), (4, .int .i64 0), (5, .int .i64 3840), (6, .int .i64 0), (58, .agg #[.int .i64 0, .int .i64 0, .int .i64 0])] 193 G a w | 2 => SG [(1, .pointer (some ⟨r, 0, none⟩)), (2, .bool true), (3, .int .i64 0), (4, .int .i64 0), (5, .int .i64 3840), (6, .int .i64 0), (59, .tuple #[.int .i64 0, .int .i64 1])] 193 G a w | 3 => SG [(1, .pointer (some ⟨r, 0, none⟩)), (2, .bool true), (3, .int .i64 0), (4, .int .i64 0), (5, .int .i64 3840), (6, .int .i64 0), (57, .tuple #[.int .i64 0, .int .i64 1])] 193 G a w | 4 => SG [(1, .pointer (some ⟨r, 0, none⟩)), (2, .bool true), (3, .int .i64 0), (4, .int .i64 0), (5, .int .i64 3840), (6, .int .i64 0), (57, .tuple #[.int .i64 0, .int .i64 1]), (60, .int .i64 0)] 193 G a w | 5 => SG [(1, .pointer (some ⟨r, 0, none⟩)), (2, .bool true), (3, .int .i64 0), (4, .int .i64 0), (5, .int .i64 3840), (6, .int .i64 0), (60, .int .i64 0), (61, .int .i64 1)] 193 G a w | 6 => SG [(1, .pointer (some ⟨r, 0, none⟩)), (2, .bool true), (3, .int .i64 0), (4, .int .i64 0), (5, .int .i64 3840), (6, .int .i64 0), (61, .int .i64 1)] 193 G a w | _ => SG [(1, .pointer (some ⟨r, 0, none⟩)), (2, .bool true), (3, .int .i64 0), (4, .int .i64 0), (5, .int .i64 3840), (6, .int .i64 0), (8, .int .i64 1)] 193 G a w) (show SG _ _ G a w from h0) ⟨?_, ?_, ?_, ?_, ?_, ?_, ?_, trivial⟩ ?_
  · intro a w hI
    have hI : SG _ _ G a w := hI
    go_simp
    exact hI.put (d := 58) (by decide) (by simp) hI.wp
  · intro a w hI
    have hI : SG _ _ G a w := hI
    have e58 := hI.g 58 rfl
    go_simp
    refine ⟨trivial, fun h => (by cases h), (hc (n - 1) w hI.wp).mono ?_⟩
    rintro e w' ⟨rfl, hb2⟩
    exact hI.put (d := 59) (by decide) (by simp) (hS _ _ hI.wp hb2)
  · intro a w hI
    have hI : SG _ _ G a w := hI
    have e59 := hI.g 59 rfl
    go_simp
    exact hI.put (d := 57) (by decide) (by simp) hI.wp
  · intro a w hI
    have hI : SG _ _ G a w := hI
    have e57 := hI.g 57 rfl
    go_simp
    exact hI.put (d := 60) (by decide) (by simp) hI.wp
  · intro a w hI
    have hI : SG _ _ G a w := hI
    have e57 := hI.g 57 rfl
    go_simp
    exact hI.put (d := 61) (by decide) (by simp) hI.wp
  · intro a w hI
    have hI : SG _ _ G a w := hI
    have e60 := hI.g 60 rfl
    go_simp
    exact hI.put (d := 7) (by decide) (by simp) hI.wp
  · intro a w hI
    have hI : SG _ _ G a w := hI
    have e61 := hI.g 61 rfl
    go_simp
    exact hI.put (d := 8) (by decide) (by simp) hI.wp
  · intro a w hI
    have hI : SG _ _ G a w := hI
    exact hQ a w hI
set_option maxRecDepth 100000 in
set_option maxHeartbeats 4000000 in
theorem kn7 (n : Nat) {G : World → Prop} (hS : Stable G) (r : Nat) (hc : ∀ m w, G w → CallsIn Fence.wide m Try.prog 13 #[.pointer (some ⟨r, 0, none⟩), .agg #[.int .i64 0, .int .i64 4, .int .i64 0]] w fun e w' => e = .returned (.tuple #[.int .i64 0, .int .i64 10]) ∧ Below w.heap.size w w') (Q : Exit → Act → World → Prop) (a : Act) (w : World) (h0 : SG [(1, .pointer (some ⟨r, 0, none⟩)), (2, .bool true), (3, .int .i64 0), (4, .int .i64 0), (5, .int .i64 3840), (6, .int .i64 0), (8, .int .i64 1)] 193 G a w)
    (hQ : ∀ a w, SG [(1, .pointer (some ⟨r, 0, none⟩)), (2, .bool true), (3, .int .i64 0), (4, .int .i64 0), (5, .int .i64 3840), (6, .int .i64 0), (8, .int .i64 1), (10, .int .i64 10)] 193 G a w → Q .normal a w) : (regOf 7 C6).wpIn Fence.wide n Try.prog Q a w := by
  simp only [regOf, C6, Try.f6, Option.getD, Nat.reduceBEq, Bool.false_eq_true, if_true, if_false]
  refine region_sq (fun k_ a w => match k_ with | 0 => SG [(1, .pointer (some ⟨r, 0, none⟩)), (2, .bool true), (3, .int .i64 0), (4, .int .i64 0), (5, .int .i64 3840), (6, .int .i64 0), (8, .int .i64 1)] 193 G a w | 1 => SG [(1, .pointer (some ⟨r, 0, none⟩)), (2, .bool true), (3, .int .i64 0), (4, .int .i64 0), (5, .int .i64 3840), (6, .int .i64 0), (8, .int .i64 1), (63, .pointer (some ⟨r, 0, none⟩))] 193 G a w | 2 => SG [(1, .pointer (some ⟨r, 0, none⟩)), (2, .bool true), (3, .int .i64 0), (4, .int .i64 0), (5, .int .i64 3840), (6, .int .i64 0), (8, .int .i64 1), (63, .pointer (some ⟨r, 0, none⟩)), (64, .agg #[.int .i64 0, .int .i64 4, .int .i64 0])] 193 G a w | 3 => SG [(1, .pointer (some ⟨r, 0, none⟩)), (2, .bool true), (3, .int .i64 0), (4, .int .i64 0), (5, .int .i64 3840), (6, .int .i64 0), (8, .int .i64 1), (65, .tuple #[.int .i64 0, .int .i64 10])] 193 G a w | 4 => SG [(1, .pointer (some ⟨r, 0, none⟩)), (2, .bool true), (3, .int .i64 0), (4, .int .i64 0), (5, .int .i64 3840), (6, .int .i64 0), (8, .int .i64 1), (62, .tuple #[.int .i64 0, .int .i64 10])] 193 G a w | 5 => SG [(1, .pointer (some ⟨r, 0, none⟩)), (2, .bool true), (3, .int .i64 0), (4, .int .i64 0), (5, .int .i64 3840), (6, .int .i64 0), (8, .int .i64 1), (62, .tuple #[.int .i64 0, .int .i64 10]), (66, .int .i64 0)] 193 G a w | 6 => SG [(1, .pointer (some ⟨r, 0, none⟩)), (2, .bool true), (3, .int .i64 0), (4, .int .i64 0), (5, .int .i64 3840), (6, .int .i64 0), (8, .int .i64 1), (66, .int .i64 0), (67, .int .i64 10)] 193 G a w | 7 => SG [(1, .pointer (some ⟨r, 0, none⟩)), (2, .bool true), (3, .int .i64 0), (4, .int .i64 0), (5, .int .i64 3840), (6, .int .i64 0), (8, .int .i64 1), (67, .int .i64 10)] 193 G a w | _ => SG [(1, .pointer (some ⟨r, 0, none⟩)), (2, .bool true), (3, .int .i64 0), (4, .int .i64 0), (5, .int .i64 3840), (6, .int .i64 0), (8, .int .i64 1), (10, .int .i64 10)] 193 G a w) (show SG _ _ G a w from h0) ⟨?_, ?_, ?_, ?_, ?_, ?_, ?_, ?_, trivial⟩ ?_
  · intro a w hI
    have hI : SG _ _ G a w := hI
    have e1 := hI.g 1 rfl
    go_simp
    exact hI.put (d := 63) (by decide) (by simp) hI.wp
  · intro a w hI
    have hI : SG _ _ G a w := hI
    go_simp
    exact hI.put (d := 64) (by decide) (by simp) hI.wp
  · intro a w hI
    have hI : SG _ _ G a w := hI
    have e63 := hI.g 63 rfl
    have e64 := hI.g 64 rfl
    go_simp
    refine ⟨trivial, fun h => (by cases h), (hc (n - 1) w hI.wp).mono ?_⟩
    rintro e w' ⟨rfl, hb2⟩
    exact hI.put (d := 65) (by decide) (by simp) (hS _ _ hI.wp hb2)
  · intro a w hI
    have hI : SG _ _ G a w := hI
    have e65 := hI.g 65 rfl
    go_simp
    exact hI.put (d := 62) (by decide) (by simp) hI.wp
  · intro a w hI
    have hI : SG _ _ G a w := hI
    have e62 := hI.g 62 rfl
    go_simp
    exact hI.put (d := 66) (by decide) (by simp) hI.wp
  · intro a w hI
    have hI : SG _ _ G a w := hI
    have e62 := hI.g 62 rfl
    go_simp
    exact hI.put (d := 67) (by decide) (by simp) hI.wp
  · intro a w hI
    have hI : SG _ _ G a w := hI
    have e66 := hI.g 66 rfl
    go_simp
    exact hI.put (d := 9) (by decide) (by simp) hI.wp
  · intro a w hI
    have hI : SG _ _ G a w := hI
    have e67 := hI.g 67 rfl
    go_simp
    exact hI.put (d := 10) (by decide) (by simp) hI.wp
  · intro a w hI
    have hI : SG _ _ G a w := hI
    exact hQ a w hI
set_option maxRecDepth 100000 in
set_option maxHeartbeats 4000000 in
theorem kn8 (n : Nat) {G : World → Prop} (hS : Stable G) (r : Nat) (Q : Exit → Act → World → Prop) (a : Act) (w : World) (h0 : SG [(1, .pointer (some ⟨r, 0, none⟩)), (2, .bool true), (3, .int .i64 0), (4, .int .i64 0), (5, .int .i64 3840), (6, .int .i64 0), (8, .int .i64 1), (10, .int .i64 10)] 193 G a w)
    (hQ : ∀ a w, SG [(1, .pointer (some ⟨r, 0, none⟩)), (93, .bool false)] 193 G a w → Q .normal a w) : (regOf 8 C6).wpIn Fence.wide n Try.prog Q a w := by
  simp only [regOf, C6, Try.f6, Option.getD, Nat.reduceBEq, Bool.false_eq_true, if_true, if_false]
  refine region_sq (fun k_ a w => match k_ with | 0 => SG [(1, .pointer (some ⟨r, 0, none⟩)), (2, .bool true), (3, .int .i64 0), (4, .int .i64 0), (5, .int .i64 3840), (6, .int .i64 0), (8, .int .i64 1), (10, .int .i64 10)] 193 G a w | 1 => SG [(1, .pointer (some ⟨r, 0, none⟩)), (3, .int .i64 0), (4, .int .i64 0), (5, .int .i64 3840), (6, .int .i64 0), (8, .int .i64 1), (10, .int .i64 10), (68, .bool true)] 193 G a w | 2 => SG [(1, .pointer (some ⟨r, 0, none⟩)), (3, .int .i64 0), (4, .int .i64 0), (5, .int .i64 3840), (6, .int .i64 0), (8, .int .i64 1), (10, .int .i64 10), (69, .bool false)] 193 G a w | 3 => SG [(1, .pointer (some ⟨r, 0, none⟩)), (3, .int .i64 0), (4, .int .i64 0), (5, .int .i64 3840), (6, .int .i64 0), (8, .int .i64 1), (10, .int .i64 10), (70, .bool false)] 193 G a w | 4 => SG [(1, .pointer (some ⟨r, 0, none⟩)), (4, .int .i64 0), (5, .int .i64 3840), (6, .int .i64 0), (8, .int .i64 1), (10, .int .i64 10), (70, .bool false), (71, .int .i64 0)] 193 G a w | 5 => SG [(1, .pointer (some ⟨r, 0, none⟩)), (4, .int .i64 0), (5, .int .i64 3840), (6, .int .i64 0), (8, .int .i64 1), (10, .int .i64 10), (70, .bool false), (72, .bool false)] 193 G a w | 6 => SG [(1, .pointer (some ⟨r, 0, none⟩)), (4, .int .i64 0), (5, .int .i64 3840), (6, .int .i64 0), (8, .int .i64 1), (10, .int .i64 10), (73, .bool false)] 193 G a w | 7 => SG [(1, .pointer (some ⟨r, 0, none⟩)), (4, .int .i64 0), (5, .int .i64 3840), (6, .int .i64 0), (8, .int .i64 1), (10, .int .i64 10), (74, .bool false)] 193 G a w | 8 => SG [(1, .pointer (some ⟨r, 0, none⟩)), (5, .int .i64 3840), (6, .int .i64 0), (8, .int .i64 1), (10, .int .i64 10), (74, .bool false), (75, .int .i64 0)] 193 G a w | 9 => SG [(1, .pointer (some ⟨r, 0, none⟩)), (5, .int .i64 3840), (6, .int .i64 0), (8, .int .i64 1), (10, .int .i64 10), (74, .bool false), (76, .bool false)] 193 G a w | 10 => SG [(1, .pointer (some ⟨r, 0, none⟩)), (5, .int .i64 3840), (6, .int .i64 0), (8, .int .i64 1), (10, .int .i64 10), (77, .bool false)] 193 G a w | 11 => SG [(1, .pointer (some ⟨r, 0, none⟩)), (5, .int .i64 3840), (6, .int .i64 0), (8, .int .i64 1), (10, .int .i64 10), (78, .bool false)] 193 G a w | 12 => SG [(1, .pointer (some ⟨r, 0, none⟩)), (6, .int .i64 0), (8, .int .i64 1), (10, .int .i64 10), (78, .bool false), (79, .int .i64 3840)] 193 G a w | 13 => SG [(1, .pointer (some ⟨r, 0, none⟩)), (6, .int .i64 0), (8, .int .i64 1), (10, .int .i64 10), (78, .bool false), (80, .bool false)] 193 G a w | 14 => SG [(1, .pointer (some ⟨r, 0, none⟩)), (6, .int .i64 0), (8, .int .i64 1), (10, .int .i64 10), (81, .bool false)] 193 G a w | 15 => SG [(1, .pointer (some ⟨r, 0, none⟩)), (6, .int .i64 0), (8, .int .i64 1), (10, .int .i64 10), (82, .bool false)] 193 G a w | 16 => SG [(1, .pointer (some ⟨r, 0, none⟩)), (8, .int .i64 1), (10, .int .i64 10), (82, .bool false), (83, .int .i64 0)] 193 G a w | 17 => SG [(1, .pointer (some ⟨r, 0, none⟩)), (8, .int .i64 1), (10, .int .i64 10), (82, .bool false), (84, .bool false)] 193 G a w | 18 => SG [(1, .pointer (some ⟨r, 0, none⟩)), (8, .int .i64 1), (10, .int .i64 10), (85, .bool false)] 193 G a w | 19 => SG [(1, .pointer (some ⟨r, 0, none⟩)), (8, .int .i64 1), (10, .int .i64 10), (86, .bool false)] 193 G a w | 20 => SG [(1, .pointer (some ⟨r, 0, none⟩)), (10, .int .i64 10), (86, .bool false), (87, .int .i64 1)] 193 G a w | 21 => SG [(1, .pointer (some ⟨r, 0, none⟩)), (10, .int .i64 10), (86, .bool false), (88, .bool false)] 193 G a w | 22 => SG [(1, .pointer (some ⟨r, 0, none⟩)), (10, .int .i64 10), (89, .bool false)] 193 G a w | 23 => SG [(1, .pointer (some ⟨r, 0, none⟩)), (10, .int .i64 10), (90, .bool false)] 193 G a w | 24 => SG [(1, .pointer (some ⟨r, 0, none⟩)), (90, .bool false), (91, .int .i64 10)] 193 G a w | 25 => SG [(1, .pointer (some ⟨r, 0, none⟩)), (90, .bool false), (92, .bool false)] 193 G a w | _ => SG [(1, .pointer (some ⟨r, 0, none⟩)), (93, .bool false)] 193 G a w) (show SG _ _ G a w from h0) ⟨?_, ?_, ?_, ?_, ?_, ?_, ?_, ?_, ?_, ?_, ?_, ?_, ?_, ?_, ?_, ?_, ?_, ?_, ?_, ?_, ?_, ?_, ?_, ?_, ?_, ?_, trivial⟩ ?_
  · intro a w hI
    have hI : SG _ _ G a w := hI
    have e2 := hI.g 2 rfl
    go_simp
    exact hI.put (d := 68) (by decide) (by simp) hI.wp
  · intro a w hI
    have hI : SG _ _ G a w := hI
    have e68 := hI.g 68 rfl
    go_simp
    exact hI.put (d := 69) (by decide) (by simp) hI.wp
  · intro a w hI
    have hI : SG _ _ G a w := hI
    have e69 := hI.g 69 rfl
    go_simp
    exact hI.put (d := 70) (by decide) (by simp) hI.wp
  · intro a w hI
    have hI : SG _ _ G a w := hI
    have e3 := hI.g 3 rfl
    have e70 := hI.g 70 rfl
    have f70 := slot_bool e70
    go_simp
    exact hI.put (d := 71) (by decide) (by simp) hI.wp
  · intro a w hI
    have hI : SG _ _ G a w := hI
    have e71 := hI.g 71 rfl
    have e70 := hI.g 70 rfl
    have f70 := slot_bool e70
    go_simp
    exact hI.put (d := 72) (by decide) (by simp) hI.wp
  · intro a w hI
    have hI : SG _ _ G a w := hI
    have e70 := hI.g 70 rfl
    have e72 := hI.g 72 rfl
    go_simp
    exact hI.put (d := 73) (by decide) (by simp) hI.wp
  · intro a w hI
    have hI : SG _ _ G a w := hI
    have e73 := hI.g 73 rfl
    go_simp
    exact hI.put (d := 74) (by decide) (by simp) hI.wp
  · intro a w hI
    have hI : SG _ _ G a w := hI
    have e4 := hI.g 4 rfl
    have e74 := hI.g 74 rfl
    have f74 := slot_bool e74
    go_simp
    exact hI.put (d := 75) (by decide) (by simp) hI.wp
  · intro a w hI
    have hI : SG _ _ G a w := hI
    have e75 := hI.g 75 rfl
    have e74 := hI.g 74 rfl
    have f74 := slot_bool e74
    go_simp
    exact hI.put (d := 76) (by decide) (by simp) hI.wp
  · intro a w hI
    have hI : SG _ _ G a w := hI
    have e74 := hI.g 74 rfl
    have e76 := hI.g 76 rfl
    go_simp
    exact hI.put (d := 77) (by decide) (by simp) hI.wp
  · intro a w hI
    have hI : SG _ _ G a w := hI
    have e77 := hI.g 77 rfl
    go_simp
    exact hI.put (d := 78) (by decide) (by simp) hI.wp
  · intro a w hI
    have hI : SG _ _ G a w := hI
    have e5 := hI.g 5 rfl
    have e78 := hI.g 78 rfl
    have f78 := slot_bool e78
    go_simp
    exact hI.put (d := 79) (by decide) (by simp) hI.wp
  · intro a w hI
    have hI : SG _ _ G a w := hI
    have e79 := hI.g 79 rfl
    have e78 := hI.g 78 rfl
    have f78 := slot_bool e78
    go_simp
    exact hI.put (d := 80) (by decide) (by simp) hI.wp
  · intro a w hI
    have hI : SG _ _ G a w := hI
    have e78 := hI.g 78 rfl
    have e80 := hI.g 80 rfl
    go_simp
    exact hI.put (d := 81) (by decide) (by simp) hI.wp
  · intro a w hI
    have hI : SG _ _ G a w := hI
    have e81 := hI.g 81 rfl
    go_simp
    exact hI.put (d := 82) (by decide) (by simp) hI.wp
  · intro a w hI
    have hI : SG _ _ G a w := hI
    have e6 := hI.g 6 rfl
    have e82 := hI.g 82 rfl
    have f82 := slot_bool e82
    go_simp
    exact hI.put (d := 83) (by decide) (by simp) hI.wp
  · intro a w hI
    have hI : SG _ _ G a w := hI
    have e83 := hI.g 83 rfl
    have e82 := hI.g 82 rfl
    have f82 := slot_bool e82
    go_simp
    exact hI.put (d := 84) (by decide) (by simp) hI.wp
  · intro a w hI
    have hI : SG _ _ G a w := hI
    have e82 := hI.g 82 rfl
    have e84 := hI.g 84 rfl
    go_simp
    exact hI.put (d := 85) (by decide) (by simp) hI.wp
  · intro a w hI
    have hI : SG _ _ G a w := hI
    have e85 := hI.g 85 rfl
    go_simp
    exact hI.put (d := 86) (by decide) (by simp) hI.wp
  · intro a w hI
    have hI : SG _ _ G a w := hI
    have e8 := hI.g 8 rfl
    have e86 := hI.g 86 rfl
    have f86 := slot_bool e86
    go_simp
    exact hI.put (d := 87) (by decide) (by simp) hI.wp
  · intro a w hI
    have hI : SG _ _ G a w := hI
    have e87 := hI.g 87 rfl
    have e86 := hI.g 86 rfl
    have f86 := slot_bool e86
    go_simp
    exact hI.put (d := 88) (by decide) (by simp) hI.wp
  · intro a w hI
    have hI : SG _ _ G a w := hI
    have e86 := hI.g 86 rfl
    have e88 := hI.g 88 rfl
    go_simp
    exact hI.put (d := 89) (by decide) (by simp) hI.wp
  · intro a w hI
    have hI : SG _ _ G a w := hI
    have e89 := hI.g 89 rfl
    go_simp
    exact hI.put (d := 90) (by decide) (by simp) hI.wp
  · intro a w hI
    have hI : SG _ _ G a w := hI
    have e10 := hI.g 10 rfl
    have e90 := hI.g 90 rfl
    have f90 := slot_bool e90
    go_simp
    exact hI.put (d := 91) (by decide) (by simp) hI.wp
  · intro a w hI
    have hI : SG _ _ G a w := hI
    have e91 := hI.g 91 rfl
    have e90 := hI.g 90 rfl
    have f90 := slot_bool e90
    go_simp
    exact hI.put (d := 92) (by decide) (by simp) hI.wp
  · intro a w hI
    have hI : SG _ _ G a w := hI
    have e90 := hI.g 90 rfl
    have e92 := hI.g 92 rfl
    go_simp
    exact hI.put (d := 93) (by decide) (by simp) hI.wp
  · intro a w hI
    have hI : SG _ _ G a w := hI
    exact hQ a w hI
set_option maxRecDepth 100000 in
set_option maxHeartbeats 8000000 in
theorem kn10 (n : Nat) {G : World → Prop} (r : Nat) {G1 : Nat → World → Prop} {G2 : Nat → Nat → World → Prop} (hS2 : ∀ q g : Nat, Stable (G2 q g)) (hn : ∀ (m : Nat) (w : World), G w → CallsIn Fence.wide m Try.prog 25 #[] w fun e w' => ∃ q, e = .returned (.pointer (some ⟨q, 0, none⟩)) ∧ G1 q w') (hc : ∀ (q : Nat) (g : Nat) (m : Nat) (w : World), (G2 q g) w → CallsIn Fence.wide m Try.prog 19 #[.slice (some ⟨g, 0, none⟩) 2 2] w fun e w' => e = .returned (.tuple #[.int .i64 0, .int .i64 0]) ∧ Below w.heap.size w w') (hst5 : ∀ (q : Nat) (w : World), (G1 q) w → G2 q w.heap.size (w.alloc (.cells #[.int .i64 0, .int .i64 0, .int .i64 0, .pointer (some ⟨q, 0, none⟩), .int .i64 0, .int .i64 1, .int .i64 0, .pointer (some ⟨r, 0, none⟩)] 58))) (Q : Exit → Act → World → Prop) (a : Act) (w : World) (h0 : SG [(1, .pointer (some ⟨r, 0, none⟩))] 193 G a w)
    (hQ : ∀ (q : Nat) (g : Nat) a w, SG [(1, .pointer (some ⟨r, 0, none⟩)), (4, .int .i64 0), (11, .int .i64 0)] 193 (G2 q g) a w → Q .normal a w) : (regOf 10 C6).wpIn Fence.wide n Try.prog Q a w := by
  simp only [regOf, C6, Try.f6, Option.getD, Nat.reduceBEq, Bool.false_eq_true, if_true, if_false]
  refine region_sq (fun k_ a w => match k_ with | 0 => SG [(1, .pointer (some ⟨r, 0, none⟩))] 193 G a w | 1 => ∃ q, SG [(1, .pointer (some ⟨r, 0, none⟩)), (95, .pointer (some ⟨q, 0, none⟩))] 193 (G1 q) a w | 2 => ∃ q, SG [(1, .pointer (some ⟨r, 0, none⟩)), (96, .agg #[.int .i64 0, .int .i64 0, .int .i64 0, .pointer (some ⟨q, 0, none⟩)])] 193 (G1 q) a w | 3 => ∃ q, SG [(1, .pointer (some ⟨r, 0, none⟩)), (96, .agg #[.int .i64 0, .int .i64 0, .int .i64 0, .pointer (some ⟨q, 0, none⟩)]), (97, .agg #[.int .i64 0, .int .i64 1, .int .i64 0])] 193 (G1 q) a w | 4 => ∃ q, SG [(1, .pointer (some ⟨r, 0, none⟩)), (96, .agg #[.int .i64 0, .int .i64 0, .int .i64 0, .pointer (some ⟨q, 0, none⟩)]), (97, .agg #[.int .i64 0, .int .i64 1, .int .i64 0]), (98, .pointer (some ⟨r, 0, none⟩))] 193 (G1 q) a w | 5 => ∃ q, SG [(1, .pointer (some ⟨r, 0, none⟩)), (96, .agg #[.int .i64 0, .int .i64 0, .int .i64 0, .pointer (some ⟨q, 0, none⟩)]), (99, .agg #[.int .i64 0, .int .i64 1, .int .i64 0, .pointer (some ⟨r, 0, none⟩)])] 193 (G1 q) a w | 6 => ∃ q g, SG [(1, .pointer (some ⟨r, 0, none⟩)), (100, .slice (some ⟨g, 0, none⟩) 2 2)] 193 (G2 q g) a w | 7 => ∃ q g, SG [(1, .pointer (some ⟨r, 0, none⟩)), (101, .tuple #[.int .i64 0, .int .i64 0])] 193 (G2 q g) a w | 8 => ∃ q g, SG [(1, .pointer (some ⟨r, 0, none⟩)), (94, .tuple #[.int .i64 0, .int .i64 0])] 193 (G2 q g) a w | 9 => ∃ q g, SG [(1, .pointer (some ⟨r, 0, none⟩)), (94, .tuple #[.int .i64 0, .int .i64 0]), (102, .int .i64 0)] 193 (G2 q g) a w | 10 => ∃ q g, SG [(1, .pointer (some ⟨r, 0, none⟩)), (102, .int .i64 0), (103, .int .i64 0)] 193 (G2 q g) a w | 11 => ∃ q g, SG [(1, .pointer (some ⟨r, 0, none⟩)), (103, .int .i64 0), (11, .int .i64 0)] 193 (G2 q g) a w | _ => ∃ q g, SG [(1, .pointer (some ⟨r, 0, none⟩)), (11, .int .i64 0), (4, .int .i64 0)] 193 (G2 q g) a w) (show SG _ _ G a w from h0) ⟨?_, ?_, ?_, ?_, ?_, ?_, ?_, ?_, ?_, ?_, ?_, ?_, trivial⟩ ?_
  · intro a w hI
    have hI : SG _ _ _ a w := hI
    go_simp
    refine ⟨trivial, fun h => (by cases h), (hn (n - 1) w hI.wp).mono ?_⟩
    rintro e w' ⟨q, rfl, hg2⟩
    exact ⟨q, hI.put (d := 95) (by decide) (by simp) hg2⟩
  · rintro a w ⟨q, hI⟩
    have e95 := hI.g 95 rfl
    go_simp
    exact ⟨q, hI.put (d := 96) (by decide) (by simp) hI.wp⟩
  · rintro a w ⟨q, hI⟩
    go_simp
    exact ⟨q, hI.put (d := 97) (by decide) (by simp) hI.wp⟩
  · rintro a w ⟨q, hI⟩
    have e1 := hI.g 1 rfl
    go_simp
    exact ⟨q, hI.put (d := 98) (by decide) (by simp) hI.wp⟩
  · rintro a w ⟨q, hI⟩
    have e97 := hI.g 97 rfl
    have e98 := hI.g 98 rfl
    go_simp
    exact ⟨q, hI.put (d := 99) (by decide) (by simp) hI.wp⟩
  · rintro a w ⟨q, hI⟩
    have e96 := hI.g 96 rfl
    have e99 := hI.g 99 rfl
    go_simp
    exact ⟨q, w.heap.size, hI.put (d := 100) (by decide) (by simp) (hst5 q w hI.wp)⟩
  · rintro a w ⟨q, g, hI⟩
    have e100 := hI.g 100 rfl
    go_simp
    refine ⟨trivial, fun h => (by cases h), (hc q g (n - 1) w hI.wp).mono ?_⟩
    rintro e w' ⟨rfl, hb2⟩
    exact ⟨q, g, hI.put (d := 101) (by decide) (by simp) (hS2 q g _ _ hI.wp hb2)⟩
  · rintro a w ⟨q, g, hI⟩
    have e101 := hI.g 101 rfl
    go_simp
    exact ⟨q, g, hI.put (d := 94) (by decide) (by simp) hI.wp⟩
  · rintro a w ⟨q, g, hI⟩
    have e94 := hI.g 94 rfl
    go_simp
    exact ⟨q, g, hI.put (d := 102) (by decide) (by simp) hI.wp⟩
  · rintro a w ⟨q, g, hI⟩
    have e94 := hI.g 94 rfl
    go_simp
    exact ⟨q, g, hI.put (d := 103) (by decide) (by simp) hI.wp⟩
  · rintro a w ⟨q, g, hI⟩
    have e102 := hI.g 102 rfl
    go_simp
    exact ⟨q, g, hI.put (d := 11) (by decide) (by simp) hI.wp⟩
  · rintro a w ⟨q, g, hI⟩
    have e103 := hI.g 103 rfl
    go_simp
    exact ⟨q, g, hI.put (d := 4) (by decide) (by simp) hI.wp⟩
  · rintro a w ⟨q, g, hI⟩
    exact hQ q g a w (hI.sub (by intro p hp; simp only [List.mem_cons, List.not_mem_nil, or_false] at hp ⊢; rcases hp with h | h | h <;> simp [h]))
set_option maxRecDepth 100000 in
set_option maxHeartbeats 4000000 in
theorem kn11 (n : Nat) {G : World → Prop} (hS : Stable G) (r : Nat) (hc : ∀ m w, G w → CallsIn Fence.wide m Try.prog 19 #[.slice none 0 0] w fun e w' => e = .returned (.tuple #[.int .i64 0, .int .i64 0]) ∧ Below w.heap.size w w') (Q : Exit → Act → World → Prop) (a : Act) (w : World) (h0 : SG [(1, .pointer (some ⟨r, 0, none⟩)), (4, .int .i64 0), (11, .int .i64 0)] 193 G a w)
    (hQ : ∀ a w, SG [(1, .pointer (some ⟨r, 0, none⟩)), (4, .int .i64 0), (11, .int .i64 0), (12, .int .i64 0), (6, .int .i64 0)] 193 G a w → Q .normal a w) : (regOf 11 C6).wpIn Fence.wide n Try.prog Q a w := by
  simp only [regOf, C6, Try.f6, Option.getD, Nat.reduceBEq, Bool.false_eq_true, if_true, if_false]
  refine region_sq (fun k_ a w => match k_ with | 0 => SG [(1, .pointer (some ⟨r, 0, none⟩)), (4, .int .i64 0), (11, .int .i64 0)] 193 G a w | 1 => SG [(1, .pointer (some ⟨r, 0, none⟩)), (4, .int .i64 0), (11, .int .i64 0), (105, .tuple #[.int .i64 0, .int .i64 0])] 193 G a w | 2 => SG [(1, .pointer (some ⟨r, 0, none⟩)), (4, .int .i64 0), (11, .int .i64 0), (104, .tuple #[.int .i64 0, .int .i64 0])] 193 G a w | 3 => SG [(1, .pointer (some ⟨r, 0, none⟩)), (4, .int .i64 0), (11, .int .i64 0), (104, .tuple #[.int .i64 0, .int .i64 0]), (106, .int .i64 0)] 193 G a w | 4 => SG [(1, .pointer (some ⟨r, 0, none⟩)), (4, .int .i64 0), (11, .int .i64 0), (106, .int .i64 0), (107, .int .i64 0)] 193 G a w | 5 => SG [(1, .pointer (some ⟨r, 0, none⟩)), (4, .int .i64 0), (11, .int .i64 0), (107, .int .i64 0), (12, .int .i64 0)] 193 G a w | _ => SG [(1, .pointer (some ⟨r, 0, none⟩)), (4, .int .i64 0), (11, .int .i64 0), (12, .int .i64 0), (6, .int .i64 0)] 193 G a w) (show SG _ _ G a w from h0) ⟨?_, ?_, ?_, ?_, ?_, ?_, trivial⟩ ?_
  · intro a w hI
    have hI : SG _ _ G a w := hI
    go_simp
    refine ⟨trivial, fun h => (by cases h), (hc (n - 1) w hI.wp).mono ?_⟩
    rintro e w' ⟨rfl, hb2⟩
    exact hI.put (d := 105) (by decide) (by simp) (hS _ _ hI.wp hb2)
  · intro a w hI
    have hI : SG _ _ G a w := hI
    have e105 := hI.g 105 rfl
    go_simp
    exact hI.put (d := 104) (by decide) (by simp) hI.wp
  · intro a w hI
    have hI : SG _ _ G a w := hI
    have e104 := hI.g 104 rfl
    go_simp
    exact hI.put (d := 106) (by decide) (by simp) hI.wp
  · intro a w hI
    have hI : SG _ _ G a w := hI
    have e104 := hI.g 104 rfl
    go_simp
    exact hI.put (d := 107) (by decide) (by simp) hI.wp
  · intro a w hI
    have hI : SG _ _ G a w := hI
    have e106 := hI.g 106 rfl
    go_simp
    exact hI.put (d := 12) (by decide) (by simp) hI.wp
  · intro a w hI
    have hI : SG _ _ G a w := hI
    have e107 := hI.g 107 rfl
    go_simp
    exact hI.put (d := 6) (by decide) (by simp) hI.wp
  · intro a w hI
    have hI : SG _ _ G a w := hI
    exact hQ a w hI
set_option maxRecDepth 100000 in
set_option maxHeartbeats 8000000 in
theorem kn12 (n : Nat) {G : World → Prop} (r : Nat) {G1 : Nat → World → Prop} (hS1 : ∀ g : Nat, Stable (G1 g)) (hc : ∀ (g : Nat) (m : Nat) (w : World), (G1 g) w → CallsIn Fence.wide m Try.prog 19 #[.slice (some ⟨g, 0, none⟩) 2 2] w fun e w' => e = .returned (.tuple #[.int .i64 0, .int .i64 6]) ∧ Below w.heap.size w w') (hst4 : ∀ (w : World), G w → G1  w.heap.size (w.alloc (.cells #[.int .i64 0, .int .i64 0, .int .i64 0, .pointer (some ⟨r, 0, none⟩), .int .i64 0, .int .i64 0, .int .i64 0, .pointer (some ⟨r, 0, none⟩)] 58))) (Q : Exit → Act → World → Prop) (a : Act) (w : World) (h0 : SG [(1, .pointer (some ⟨r, 0, none⟩)), (4, .int .i64 0), (11, .int .i64 0), (12, .int .i64 0), (6, .int .i64 0)] 193 G a w)
    (hQ : ∀ (g : Nat) a w, SG [(1, .pointer (some ⟨r, 0, none⟩)), (4, .int .i64 0), (11, .int .i64 0), (12, .int .i64 0), (6, .int .i64 0), (8, .int .i64 6)] 193 (G1 g) a w → Q .normal a w) : (regOf 12 C6).wpIn Fence.wide n Try.prog Q a w := by
  simp only [regOf, C6, Try.f6, Option.getD, Nat.reduceBEq, Bool.false_eq_true, if_true, if_false]
  refine region_sq (fun k_ a w => match k_ with | 0 => SG [(1, .pointer (some ⟨r, 0, none⟩)), (4, .int .i64 0), (11, .int .i64 0), (12, .int .i64 0), (6, .int .i64 0)] 193 G a w | 1 => SG [(1, .pointer (some ⟨r, 0, none⟩)), (4, .int .i64 0), (11, .int .i64 0), (12, .int .i64 0), (6, .int .i64 0), (109, .pointer (some ⟨r, 0, none⟩))] 193 G a w | 2 => SG [(1, .pointer (some ⟨r, 0, none⟩)), (4, .int .i64 0), (11, .int .i64 0), (12, .int .i64 0), (6, .int .i64 0), (110, .agg #[.int .i64 0, .int .i64 0, .int .i64 0, .pointer (some ⟨r, 0, none⟩)])] 193 G a w | 3 => SG [(1, .pointer (some ⟨r, 0, none⟩)), (4, .int .i64 0), (11, .int .i64 0), (12, .int .i64 0), (6, .int .i64 0), (110, .agg #[.int .i64 0, .int .i64 0, .int .i64 0, .pointer (some ⟨r, 0, none⟩)]), (111, .pointer (some ⟨r, 0, none⟩))] 193 G a w | 4 => SG [(1, .pointer (some ⟨r, 0, none⟩)), (4, .int .i64 0), (11, .int .i64 0), (12, .int .i64 0), (6, .int .i64 0), (110, .agg #[.int .i64 0, .int .i64 0, .int .i64 0, .pointer (some ⟨r, 0, none⟩)]), (112, .agg #[.int .i64 0, .int .i64 0, .int .i64 0, .pointer (some ⟨r, 0, none⟩)])] 193 G a w | 5 => ∃ g, SG [(1, .pointer (some ⟨r, 0, none⟩)), (4, .int .i64 0), (11, .int .i64 0), (12, .int .i64 0), (6, .int .i64 0), (113, .slice (some ⟨g, 0, none⟩) 2 2)] 193 (G1 g) a w | 6 => ∃ g, SG [(1, .pointer (some ⟨r, 0, none⟩)), (4, .int .i64 0), (11, .int .i64 0), (12, .int .i64 0), (6, .int .i64 0), (114, .tuple #[.int .i64 0, .int .i64 6])] 193 (G1 g) a w | 7 => ∃ g, SG [(1, .pointer (some ⟨r, 0, none⟩)), (4, .int .i64 0), (11, .int .i64 0), (12, .int .i64 0), (6, .int .i64 0), (108, .tuple #[.int .i64 0, .int .i64 6])] 193 (G1 g) a w | 8 => ∃ g, SG [(1, .pointer (some ⟨r, 0, none⟩)), (4, .int .i64 0), (11, .int .i64 0), (12, .int .i64 0), (6, .int .i64 0), (108, .tuple #[.int .i64 0, .int .i64 6])] 193 (G1 g) a w | 9 => ∃ g, SG [(1, .pointer (some ⟨r, 0, none⟩)), (4, .int .i64 0), (11, .int .i64 0), (12, .int .i64 0), (6, .int .i64 0), (116, .int .i64 6)] 193 (G1 g) a w | _ => ∃ g, SG [(1, .pointer (some ⟨r, 0, none⟩)), (4, .int .i64 0), (11, .int .i64 0), (12, .int .i64 0), (6, .int .i64 0), (8, .int .i64 6)] 193 (G1 g) a w) (show SG _ _ G a w from h0) ⟨?_, ?_, ?_, ?_, ?_, ?_, ?_, ?_, ?_, ?_, trivial⟩ ?_
  · intro a w hI
    have hI : SG _ _ _ a w := hI
    have e1 := hI.g 1 rfl
    go_simp
    exact hI.put (d := 109) (by decide) (by simp) hI.wp
  · intro a w hI
    have hI : SG _ _ _ a w := hI
    have e109 := hI.g 109 rfl
    go_simp
    exact hI.put (d := 110) (by decide) (by simp) hI.wp
  · intro a w hI
    have hI : SG _ _ _ a w := hI
    have e1 := hI.g 1 rfl
    go_simp
    exact hI.put (d := 111) (by decide) (by simp) hI.wp
  · intro a w hI
    have hI : SG _ _ _ a w := hI
    have e111 := hI.g 111 rfl
    go_simp
    exact hI.put (d := 112) (by decide) (by simp) hI.wp
  · intro a w hI
    have hI : SG _ _ _ a w := hI
    have e110 := hI.g 110 rfl
    have e112 := hI.g 112 rfl
    go_simp
    exact ⟨w.heap.size, hI.put (d := 113) (by decide) (by simp) (hst4 w hI.wp)⟩
  · rintro a w ⟨g, hI⟩
    have e113 := hI.g 113 rfl
    go_simp
    refine ⟨trivial, fun h => (by cases h), (hc g (n - 1) w hI.wp).mono ?_⟩
    rintro e w' ⟨rfl, hb2⟩
    exact ⟨g, hI.put (d := 114) (by decide) (by simp) (hS1 g _ _ hI.wp hb2)⟩
  · rintro a w ⟨g, hI⟩
    have e114 := hI.g 114 rfl
    go_simp
    exact ⟨g, hI.put (d := 108) (by decide) (by simp) hI.wp⟩
  · rintro a w ⟨g, hI⟩
    have e108 := hI.g 108 rfl
    go_simp
    exact ⟨g, hI.put (d := 115) (by decide) (by simp) hI.wp⟩
  · rintro a w ⟨g, hI⟩
    have e108 := hI.g 108 rfl
    go_simp
    exact ⟨g, hI.put (d := 116) (by decide) (by simp) hI.wp⟩
  · rintro a w ⟨g, hI⟩
    have e116 := hI.g 116 rfl
    go_simp
    exact ⟨g, hI.put (d := 8) (by decide) (by simp) hI.wp⟩
  · rintro a w ⟨g, hI⟩
    exact hQ g a w hI
theorem operIn_bin {F : Fence} {nF : Nat} {P : Program} {w : World} {K : Act → World → Prop} {o : Oper} {a : Act} {Q : Exit → Act → World → Prop} (op : BinOp) (x y : Operand) (t rt : TypeId) (ho : o.op = .binOp op t x y rt) (v : Value)
    (hg : (eqGuard op t x y (a.eval x) (a.eval y)).run P w = .ok () w) (hr : (binOp op t (a.eval x) (a.eval y)).run P w = .ok v w) (h : K (a.put o.dst v) w) : o.wpIn F nF P a w K Q := by
  unfold Oper.wpIn
  refine ⟨by simp [Oper.about, ho], ?_⟩
  rw [Oper.semAt_plain F _ _ (by rw [ho]; intro c hc'; cases hc')]
  simp [execOp, ho, hg, hr, Result.andThen]
  exact h
abbrev ag15 : Value := .agg zr15
theorem key39 : ∃ l, keyOf Try.prog 39 ag15 = some l := by
  have h : (keyOf Try.prog 39 ag15).isSome = true := by kernel_rfl
  exact Option.isSome_iff_exists.1 h
theorem neq39 (w : World) : (binOp .neq 39 ag15 ag15).run Try.prog w = .ok (.bool false) w := by
  obtain ⟨l, hl⟩ := key39
  obtain ⟨r, h1, h2⟩ := run_equal_deep (P := Try.prog) w (m := 8) (by decide) (k := 39) (by kernel_rfl) (by kernel_rfl) hl hl
  have hr : r = true := h2.2 rfl
  subst hr
  have e : binOp .neq 39 ag15 ag15 = (do pure (.bool (!(← Op.equal 39 ag15 ag15)))) := rfl
  rw [e]
  simp [h1, Result.andThen]
theorem guard39 (x y : Operand) (w : World) : (eqGuard .neq 39 x y ag15 ag15).run Try.prog w = .ok () w := by
  unfold eqGuard
  simp
set_option maxRecDepth 100000 in
set_option maxHeartbeats 8000000 in
theorem kn13 (n : Nat) {G : World → Prop} (r : Nat)(k4 k5 k6 k7 k8 k9 k10 k11 k12 k13 k14 : Int)  {G1 : Nat → World → Prop} {G2 : Nat → World → Prop} (hS0 : Stable G) (hc : ∀ (m : Nat) (w : World), G w → CallsIn Fence.wide m Try.prog 14 #[.pointer (some ⟨r, 0, none⟩)] w fun e w' => e = .returned (.agg #[.int .i64 0, .int .i64 256, .int .i64 2816, .int .i64 1024, .int .i64 k4, .int .i64 k5, .int .i64 k6, .int .i64 k7, .int .i64 k8, .int .i64 k9, .int .i64 k10, .int .i64 k11, .int .i64 k12, .int .i64 k13, .int .i64 k14]) ∧ Below w.heap.size w w') (hst2 : ∀ (w : World), G w → G1  w.heap.size (w.alloc (.cells #[.int .i64 0, .int .i64 0, .int .i64 0, .int .i64 0, .int .i64 0, .int .i64 0, .int .i64 0, .int .i64 0, .int .i64 0, .int .i64 0, .int .i64 0, .int .i64 0, .int .i64 0, .int .i64 0, .int .i64 0] 39))) (hst3 : ∀ (o : Nat) (w : World), (G1 o) w → ∃ w', (Instr.storeAt 39 (.pointer (some ⟨o, 0, none⟩)) (.agg #[.int .i64 0, .int .i64 256, .int .i64 2816, .int .i64 1024, .int .i64 k4, .int .i64 k5, .int .i64 k6, .int .i64 k7, .int .i64 k8, .int .i64 k9, .int .i64 k10, .int .i64 k11, .int .i64 k12, .int .i64 k13, .int .i64 k14])).run Try.prog w = .ok () w' ∧ G2 o w') (Q : Exit → Act → World → Prop) (a : Act) (w : World) (h0 : SG [(1, .pointer (some ⟨r, 0, none⟩)), (4, .int .i64 0), (11, .int .i64 0), (12, .int .i64 0), (6, .int .i64 0), (8, .int .i64 6)] 193 G a w)
    (hQ : ∀ (o : Nat) a w, SG [(4, .int .i64 0), (11, .int .i64 0), (12, .int .i64 0), (6, .int .i64 0), (8, .int .i64 6), (13, .pointer (some ⟨o, 0, none⟩))] 193 (G2 o) a w → Q .normal a w) : (regOf 13 C6).wpIn Fence.wide n Try.prog Q a w := by
  simp only [regOf, C6, Try.f6, Option.getD, Nat.reduceBEq, Bool.false_eq_true, if_true, if_false]
  refine region_sq (fun k_ a w => match k_ with | 0 => SG [(1, .pointer (some ⟨r, 0, none⟩)), (4, .int .i64 0), (11, .int .i64 0), (12, .int .i64 0), (6, .int .i64 0), (8, .int .i64 6)] 193 G a w | 1 => SG [(4, .int .i64 0), (11, .int .i64 0), (12, .int .i64 0), (6, .int .i64 0), (8, .int .i64 6), (117, .pointer (some ⟨r, 0, none⟩))] 193 G a w | 2 => SG [(4, .int .i64 0), (11, .int .i64 0), (12, .int .i64 0), (6, .int .i64 0), (8, .int .i64 6), (118, .agg #[.int .i64 0, .int .i64 256, .int .i64 2816, .int .i64 1024, .int .i64 k4, .int .i64 k5, .int .i64 k6, .int .i64 k7, .int .i64 k8, .int .i64 k9, .int .i64 k10, .int .i64 k11, .int .i64 k12, .int .i64 k13, .int .i64 k14])] 193 G a w | 3 => ∃ o, SG [(4, .int .i64 0), (11, .int .i64 0), (12, .int .i64 0), (6, .int .i64 0), (8, .int .i64 6), (118, .agg #[.int .i64 0, .int .i64 256, .int .i64 2816, .int .i64 1024, .int .i64 k4, .int .i64 k5, .int .i64 k6, .int .i64 k7, .int .i64 k8, .int .i64 k9, .int .i64 k10, .int .i64 k11, .int .i64 k12, .int .i64 k13, .int .i64 k14]), (13, .pointer (some ⟨o, 0, none⟩))] 193 (G1 o) a w | _ => ∃ o, SG [(4, .int .i64 0), (11, .int .i64 0), (12, .int .i64 0), (6, .int .i64 0), (8, .int .i64 6), (13, .pointer (some ⟨o, 0, none⟩))] 193 (G2 o) a w) (show SG _ _ G a w from h0) ⟨?_, ?_, ?_, ?_, trivial⟩ ?_
  · intro a w hI
    have hI : SG _ _ _ a w := hI
    have e1 := hI.g 1 rfl
    go_simp
    exact hI.put (d := 117) (by decide) (by simp) hI.wp
  · intro a w hI
    have hI : SG _ _ _ a w := hI
    have e117 := hI.g 117 rfl
    go_simp
    refine ⟨trivial, fun h => (by cases h), (hc (n - 1) w hI.wp).mono ?_⟩
    rintro e w' ⟨rfl, hb2⟩
    exact hI.put (d := 118) (by decide) (by simp) (hS0 _ _ hI.wp hb2)
  · intro a w hI
    have hI : SG _ _ _ a w := hI
    go_simp
    exact ⟨w.heap.size, hI.put (d := 13) (by decide) (by simp) (hst2 w hI.wp)⟩
  · rintro a w ⟨o, hI⟩
    have e13 := hI.g 13 rfl
    have e118 := hI.g 118 rfl
    rw [if_pos (by simp [Region.wanted])]
    obtain ⟨w9, hs9, hg9⟩ := hst3 o w hI.wp
    refine operIn_store (.tmp 13) (.tmp 118) 39 rfl rfl (by rw [eval_tmp, eval_tmp, e13, e118]; exact hs9) ?_
    exact ⟨o, (hI.none hg9).sub (by intro p hp; simp only [List.mem_cons, List.not_mem_nil, or_false] at hp ⊢; rcases hp with h | h | h | h | h | h <;> simp [h])⟩
  · rintro a w ⟨o, hI⟩
    exact hQ o a w hI
set_option maxRecDepth 100000 in
set_option maxHeartbeats 8000000 in
theorem kn14 (n : Nat) {G : World → Prop} (o : Nat)  (hS0 : Stable G) (q0 : ∀ w, G w → w.cell? ⟨o, 0, none⟩ = some (.int .i64 0)) (q1 : ∀ w, G w → w.cell? ⟨o, 1, none⟩ = some (.int .i64 256)) (q2 : ∀ w, G w → w.cell? ⟨o, 2, none⟩ = some (.int .i64 2816)) (q3 : ∀ w, G w → w.cell? ⟨o, 3, none⟩ = some (.int .i64 1024)) (hk : ∀ (m : Nat) (w : World), G w → CallsIn Fence.wide m Try.prog 14 #[Value.pointer none] w fun e w' => e = .returned (.agg #[.int .i64 0, .int .i64 0, .int .i64 0, .int .i64 0, .int .i64 0, .int .i64 0, .int .i64 0, .int .i64 0, .int .i64 0, .int .i64 0, .int .i64 0, .int .i64 0, .int .i64 0, .int .i64 0, .int .i64 0]) ∧ Below w.heap.size w w') (Q : Exit → Act → World → Prop) (a : Act) (w : World) (h0 : SG [(4, .int .i64 0), (11, .int .i64 0), (12, .int .i64 0), (6, .int .i64 0), (8, .int .i64 6), (13, .pointer (some ⟨o, 0, none⟩))] 193 G a w)
    (hQ : ∀ a w, SG [(161, .bool false)] 193 G a w → Q .normal a w) : (regOf 14 C6).wpIn Fence.wide n Try.prog Q a w := by
  simp only [regOf, C6, Try.f6, Option.getD, Nat.reduceBEq, Bool.false_eq_true, if_true, if_false]
  refine region_sq (fun k_ a w => match k_ with | 0 => SG [(4, .int .i64 0), (11, .int .i64 0), (12, .int .i64 0), (6, .int .i64 0), (8, .int .i64 6), (13, .pointer (some ⟨o, 0, none⟩))] 193 G a w | 1 => SG [(4, .int .i64 0), (12, .int .i64 0), (6, .int .i64 0), (8, .int .i64 6), (13, .pointer (some ⟨o, 0, none⟩)), (119, .int .i64 0)] 193 G a w | 2 => SG [(4, .int .i64 0), (12, .int .i64 0), (6, .int .i64 0), (8, .int .i64 6), (13, .pointer (some ⟨o, 0, none⟩)), (120, .bool false)] 193 G a w | 3 => SG [(4, .int .i64 0), (12, .int .i64 0), (6, .int .i64 0), (8, .int .i64 6), (13, .pointer (some ⟨o, 0, none⟩)), (121, .bool false)] 193 G a w | 4 => SG [(12, .int .i64 0), (6, .int .i64 0), (8, .int .i64 6), (13, .pointer (some ⟨o, 0, none⟩)), (121, .bool false), (122, .int .i64 0)] 193 G a w | 5 => SG [(12, .int .i64 0), (6, .int .i64 0), (8, .int .i64 6), (13, .pointer (some ⟨o, 0, none⟩)), (121, .bool false), (123, .bool false)] 193 G a w | 6 => SG [(12, .int .i64 0), (6, .int .i64 0), (8, .int .i64 6), (13, .pointer (some ⟨o, 0, none⟩)), (124, .bool false)] 193 G a w | 7 => SG [(12, .int .i64 0), (6, .int .i64 0), (8, .int .i64 6), (13, .pointer (some ⟨o, 0, none⟩)), (125, .bool false)] 193 G a w | 8 => SG [(6, .int .i64 0), (8, .int .i64 6), (13, .pointer (some ⟨o, 0, none⟩)), (125, .bool false), (126, .int .i64 0)] 193 G a w | 9 => SG [(6, .int .i64 0), (8, .int .i64 6), (13, .pointer (some ⟨o, 0, none⟩)), (125, .bool false), (127, .bool false)] 193 G a w | 10 => SG [(6, .int .i64 0), (8, .int .i64 6), (13, .pointer (some ⟨o, 0, none⟩)), (128, .bool false)] 193 G a w | 11 => SG [(6, .int .i64 0), (8, .int .i64 6), (13, .pointer (some ⟨o, 0, none⟩)), (129, .bool false)] 193 G a w | 12 => SG [(8, .int .i64 6), (13, .pointer (some ⟨o, 0, none⟩)), (129, .bool false), (130, .int .i64 0)] 193 G a w | 13 => SG [(8, .int .i64 6), (13, .pointer (some ⟨o, 0, none⟩)), (129, .bool false), (131, .bool false)] 193 G a w | 14 => SG [(8, .int .i64 6), (13, .pointer (some ⟨o, 0, none⟩)), (132, .bool false)] 193 G a w | 15 => SG [(8, .int .i64 6), (13, .pointer (some ⟨o, 0, none⟩)), (133, .bool false)] 193 G a w | 16 => SG [(13, .pointer (some ⟨o, 0, none⟩)), (133, .bool false), (134, .int .i64 6)] 193 G a w | 17 => SG [(13, .pointer (some ⟨o, 0, none⟩)), (133, .bool false), (135, .bool false)] 193 G a w | 18 => SG [(13, .pointer (some ⟨o, 0, none⟩)), (136, .bool false)] 193 G a w | 19 => SG [(13, .pointer (some ⟨o, 0, none⟩)), (137, .bool false)] 193 G a w | 20 => SG [(13, .pointer (some ⟨o, 0, none⟩)), (137, .bool false), (138, .pointer (some ⟨o, 0, none⟩))] 193 G a w | 21 => SG [(13, .pointer (some ⟨o, 0, none⟩)), (137, .bool false), (139, .int .i64 0)] 193 G a w | 22 => SG [(13, .pointer (some ⟨o, 0, none⟩)), (137, .bool false), (140, .bool false)] 193 G a w | 23 => SG [(13, .pointer (some ⟨o, 0, none⟩)), (141, .bool false)] 193 G a w | 24 => SG [(13, .pointer (some ⟨o, 0, none⟩)), (142, .bool false)] 193 G a w | 25 => SG [(13, .pointer (some ⟨o, 0, none⟩)), (142, .bool false), (143, .pointer (some ⟨o, 1, none⟩))] 193 G a w | 26 => SG [(13, .pointer (some ⟨o, 0, none⟩)), (142, .bool false), (144, .int .i64 256)] 193 G a w | 27 => SG [(13, .pointer (some ⟨o, 0, none⟩)), (142, .bool false), (145, .bool false)] 193 G a w | 28 => SG [(13, .pointer (some ⟨o, 0, none⟩)), (146, .bool false)] 193 G a w | 29 => SG [(13, .pointer (some ⟨o, 0, none⟩)), (147, .bool false)] 193 G a w | 30 => SG [(13, .pointer (some ⟨o, 0, none⟩)), (147, .bool false), (148, .pointer (some ⟨o, 2, none⟩))] 193 G a w | 31 => SG [(13, .pointer (some ⟨o, 0, none⟩)), (147, .bool false), (149, .int .i64 2816)] 193 G a w | 32 => SG [(13, .pointer (some ⟨o, 0, none⟩)), (147, .bool false), (150, .bool false)] 193 G a w | 33 => SG [(13, .pointer (some ⟨o, 0, none⟩)), (151, .bool false)] 193 G a w | 34 => SG [(13, .pointer (some ⟨o, 0, none⟩)), (152, .bool false)] 193 G a w | 35 => SG [(152, .bool false), (153, .pointer (some ⟨o, 3, none⟩))] 193 G a w | 36 => SG [(152, .bool false), (154, .int .i64 1024)] 193 G a w | 37 => SG [(152, .bool false), (155, .bool false)] 193 G a w | 38 => SG [(156, .bool false)] 193 G a w | 39 => SG [(157, .bool false)] 193 G a w | 40 => SG [(157, .bool false), (158, .agg #[.int .i64 0, .int .i64 0, .int .i64 0, .int .i64 0, .int .i64 0, .int .i64 0, .int .i64 0, .int .i64 0, .int .i64 0, .int .i64 0, .int .i64 0, .int .i64 0, .int .i64 0, .int .i64 0, .int .i64 0])] 193 G a w | 41 => SG [(157, .bool false), (158, .agg #[.int .i64 0, .int .i64 0, .int .i64 0, .int .i64 0, .int .i64 0, .int .i64 0, .int .i64 0, .int .i64 0, .int .i64 0, .int .i64 0, .int .i64 0, .int .i64 0, .int .i64 0, .int .i64 0, .int .i64 0]), (159, .agg #[.int .i64 0, .int .i64 0, .int .i64 0, .int .i64 0, .int .i64 0, .int .i64 0, .int .i64 0, .int .i64 0, .int .i64 0, .int .i64 0, .int .i64 0, .int .i64 0, .int .i64 0, .int .i64 0, .int .i64 0])] 193 G a w | 42 => SG [(157, .bool false), (160, .bool false)] 193 G a w | _ => SG [(161, .bool false)] 193 G a w) (show SG _ _ G a w from h0) ⟨?_, ?_, ?_, ?_, ?_, ?_, ?_, ?_, ?_, ?_, ?_, ?_, ?_, ?_, ?_, ?_, ?_, ?_, ?_, ?_, ?_, ?_, ?_, ?_, ?_, ?_, ?_, ?_, ?_, ?_, ?_, ?_, ?_, ?_, ?_, ?_, ?_, ?_, ?_, ?_, ?_, ?_, ?_, trivial⟩ ?_
  · intro a w hI
    have hI : SG _ _ _ a w := hI
    have e11 := hI.g 11 rfl
    go_simp
    exact hI.put (d := 119) (by decide) (by simp) hI.wp
  · intro a w hI
    have hI : SG _ _ _ a w := hI
    have e119 := hI.g 119 rfl
    go_simp
    exact hI.put (d := 120) (by decide) (by simp) hI.wp
  · intro a w hI
    have hI : SG _ _ _ a w := hI
    have e120 := hI.g 120 rfl
    go_simp
    exact hI.put (d := 121) (by decide) (by simp) hI.wp
  · intro a w hI
    have hI : SG _ _ _ a w := hI
    have e4 := hI.g 4 rfl
    have e121 := hI.g 121 rfl
    have f121 := slot_bool e121
    go_simp
    exact hI.put (d := 122) (by decide) (by simp) hI.wp
  · intro a w hI
    have hI : SG _ _ _ a w := hI
    have e122 := hI.g 122 rfl
    have e121 := hI.g 121 rfl
    have f121 := slot_bool e121
    go_simp
    exact hI.put (d := 123) (by decide) (by simp) hI.wp
  · intro a w hI
    have hI : SG _ _ _ a w := hI
    have e121 := hI.g 121 rfl
    have e123 := hI.g 123 rfl
    go_simp
    exact hI.put (d := 124) (by decide) (by simp) hI.wp
  · intro a w hI
    have hI : SG _ _ _ a w := hI
    have e124 := hI.g 124 rfl
    go_simp
    exact hI.put (d := 125) (by decide) (by simp) hI.wp
  · intro a w hI
    have hI : SG _ _ _ a w := hI
    have e12 := hI.g 12 rfl
    have e125 := hI.g 125 rfl
    have f125 := slot_bool e125
    go_simp
    exact hI.put (d := 126) (by decide) (by simp) hI.wp
  · intro a w hI
    have hI : SG _ _ _ a w := hI
    have e126 := hI.g 126 rfl
    have e125 := hI.g 125 rfl
    have f125 := slot_bool e125
    go_simp
    exact hI.put (d := 127) (by decide) (by simp) hI.wp
  · intro a w hI
    have hI : SG _ _ _ a w := hI
    have e125 := hI.g 125 rfl
    have e127 := hI.g 127 rfl
    go_simp
    exact hI.put (d := 128) (by decide) (by simp) hI.wp
  · intro a w hI
    have hI : SG _ _ _ a w := hI
    have e128 := hI.g 128 rfl
    go_simp
    exact hI.put (d := 129) (by decide) (by simp) hI.wp
  · intro a w hI
    have hI : SG _ _ _ a w := hI
    have e6 := hI.g 6 rfl
    have e129 := hI.g 129 rfl
    have f129 := slot_bool e129
    go_simp
    exact hI.put (d := 130) (by decide) (by simp) hI.wp
  · intro a w hI
    have hI : SG _ _ _ a w := hI
    have e130 := hI.g 130 rfl
    have e129 := hI.g 129 rfl
    have f129 := slot_bool e129
    go_simp
    exact hI.put (d := 131) (by decide) (by simp) hI.wp
  · intro a w hI
    have hI : SG _ _ _ a w := hI
    have e129 := hI.g 129 rfl
    have e131 := hI.g 131 rfl
    go_simp
    exact hI.put (d := 132) (by decide) (by simp) hI.wp
  · intro a w hI
    have hI : SG _ _ _ a w := hI
    have e132 := hI.g 132 rfl
    go_simp
    exact hI.put (d := 133) (by decide) (by simp) hI.wp
  · intro a w hI
    have hI : SG _ _ _ a w := hI
    have e8 := hI.g 8 rfl
    have e133 := hI.g 133 rfl
    have f133 := slot_bool e133
    go_simp
    exact hI.put (d := 134) (by decide) (by simp) hI.wp
  · intro a w hI
    have hI : SG _ _ _ a w := hI
    have e134 := hI.g 134 rfl
    have e133 := hI.g 133 rfl
    have f133 := slot_bool e133
    go_simp
    exact hI.put (d := 135) (by decide) (by simp) hI.wp
  · intro a w hI
    have hI : SG _ _ _ a w := hI
    have e133 := hI.g 133 rfl
    have e135 := hI.g 135 rfl
    go_simp
    exact hI.put (d := 136) (by decide) (by simp) hI.wp
  · intro a w hI
    have hI : SG _ _ _ a w := hI
    have e136 := hI.g 136 rfl
    go_simp
    exact hI.put (d := 137) (by decide) (by simp) hI.wp
  · intro a w hI
    have hI : SG _ _ _ a w := hI
    have e13 := hI.g 13 rfl
    have e137 := hI.g 137 rfl
    have f137 := slot_bool e137
    go_simp
    exact hI.put (d := 138) (by decide) (by simp) hI.wp
  · intro a w hI
    have hI : SG _ _ _ a w := hI
    have e138 := hI.g 138 rfl
    have e137 := hI.g 137 rfl
    have f137 := slot_bool e137
    have cc0 := q0 w hI.wp
    go_simp
    exact hI.put (d := 139) (by decide) (by simp) hI.wp
  · intro a w hI
    have hI : SG _ _ _ a w := hI
    have e139 := hI.g 139 rfl
    have e137 := hI.g 137 rfl
    have f137 := slot_bool e137
    go_simp
    exact hI.put (d := 140) (by decide) (by simp) hI.wp
  · intro a w hI
    have hI : SG _ _ _ a w := hI
    have e137 := hI.g 137 rfl
    have e140 := hI.g 140 rfl
    go_simp
    exact hI.put (d := 141) (by decide) (by simp) hI.wp
  · intro a w hI
    have hI : SG _ _ _ a w := hI
    have e141 := hI.g 141 rfl
    go_simp
    exact hI.put (d := 142) (by decide) (by simp) hI.wp
  · intro a w hI
    have hI : SG _ _ _ a w := hI
    have e13 := hI.g 13 rfl
    have e142 := hI.g 142 rfl
    have f142 := slot_bool e142
    go_simp
    exact hI.put (d := 143) (by decide) (by simp) hI.wp
  · intro a w hI
    have hI : SG _ _ _ a w := hI
    have e143 := hI.g 143 rfl
    have e142 := hI.g 142 rfl
    have f142 := slot_bool e142
    have cc0 := q1 w hI.wp
    go_simp
    exact hI.put (d := 144) (by decide) (by simp) hI.wp
  · intro a w hI
    have hI : SG _ _ _ a w := hI
    have e144 := hI.g 144 rfl
    have e142 := hI.g 142 rfl
    have f142 := slot_bool e142
    go_simp
    exact hI.put (d := 145) (by decide) (by simp) hI.wp
  · intro a w hI
    have hI : SG _ _ _ a w := hI
    have e142 := hI.g 142 rfl
    have e145 := hI.g 145 rfl
    go_simp
    exact hI.put (d := 146) (by decide) (by simp) hI.wp
  · intro a w hI
    have hI : SG _ _ _ a w := hI
    have e146 := hI.g 146 rfl
    go_simp
    exact hI.put (d := 147) (by decide) (by simp) hI.wp
  · intro a w hI
    have hI : SG _ _ _ a w := hI
    have e13 := hI.g 13 rfl
    have e147 := hI.g 147 rfl
    have f147 := slot_bool e147
    go_simp
    exact hI.put (d := 148) (by decide) (by simp) hI.wp
  · intro a w hI
    have hI : SG _ _ _ a w := hI
    have e148 := hI.g 148 rfl
    have e147 := hI.g 147 rfl
    have f147 := slot_bool e147
    have cc0 := q2 w hI.wp
    go_simp
    exact hI.put (d := 149) (by decide) (by simp) hI.wp
  · intro a w hI
    have hI : SG _ _ _ a w := hI
    have e149 := hI.g 149 rfl
    have e147 := hI.g 147 rfl
    have f147 := slot_bool e147
    go_simp
    exact hI.put (d := 150) (by decide) (by simp) hI.wp
  · intro a w hI
    have hI : SG _ _ _ a w := hI
    have e147 := hI.g 147 rfl
    have e150 := hI.g 150 rfl
    go_simp
    exact hI.put (d := 151) (by decide) (by simp) hI.wp
  · intro a w hI
    have hI : SG _ _ _ a w := hI
    have e151 := hI.g 151 rfl
    go_simp
    exact hI.put (d := 152) (by decide) (by simp) hI.wp
  · intro a w hI
    have hI : SG _ _ _ a w := hI
    have e13 := hI.g 13 rfl
    have e152 := hI.g 152 rfl
    have f152 := slot_bool e152
    go_simp
    exact hI.put (d := 153) (by decide) (by simp) hI.wp
  · intro a w hI
    have hI : SG _ _ _ a w := hI
    have e153 := hI.g 153 rfl
    have e152 := hI.g 152 rfl
    have f152 := slot_bool e152
    have cc0 := q3 w hI.wp
    go_simp
    exact hI.put (d := 154) (by decide) (by simp) hI.wp
  · intro a w hI
    have hI : SG _ _ _ a w := hI
    have e154 := hI.g 154 rfl
    have e152 := hI.g 152 rfl
    have f152 := slot_bool e152
    go_simp
    exact hI.put (d := 155) (by decide) (by simp) hI.wp
  · intro a w hI
    have hI : SG _ _ _ a w := hI
    have e152 := hI.g 152 rfl
    have e155 := hI.g 155 rfl
    go_simp
    exact hI.put (d := 156) (by decide) (by simp) hI.wp
  · intro a w hI
    have hI : SG _ _ _ a w := hI
    have e156 := hI.g 156 rfl
    go_simp
    exact hI.put (d := 157) (by decide) (by simp) hI.wp
  · intro a w hI
    have hI : SG _ _ _ a w := hI
    have e157 := hI.g 157 rfl
    have f157 := slot_bool e157
    go_simp
    refine ⟨trivial, fun h => (by cases h), (hk (n - 1) w hI.wp).mono ?_⟩
    rintro e w' ⟨rfl, hb2⟩
    exact hI.put (d := 158) (by decide) (by simp) (hS0 _ _ hI.wp hb2)
  · intro a w hI
    have hI : SG _ _ _ a w := hI
    have e157 := hI.g 157 rfl
    have f157 := slot_bool e157
    go_simp
    exact hI.put (d := 159) (by decide) (by simp) hI.wp
  · intro a w hI
    have hI : SG _ _ _ a w := hI
    have e158 := hI.g 158 rfl
    have e159 := hI.g 159 rfl
    have e157 := hI.g 157 rfl
    have f157 := slot_bool e157
    have f157 := slot_bool e157
    rw [if_pos (by simp [Region.wanted, yielded, f157])]
    refine operIn_bin .neq (.tmp 158) (.tmp 159) 39 39 rfl (.bool false) (by rw [eval_tmp, eval_tmp, e158, e159]; exact guard39 _ _ _) (by rw [eval_tmp, eval_tmp, e158, e159]; exact neq39 _) ?_
    exact hI.put (d := 160) (by decide) (by simp) hI.wp
  · intro a w hI
    have hI : SG _ _ _ a w := hI
    have e157 := hI.g 157 rfl
    have e160 := hI.g 160 rfl
    go_simp
    exact hI.put (d := 161) (by decide) (by simp) hI.wp
  · intro a w hI
    have hI : SG _ _ _ a w := hI
    exact hQ a w hI
set_option maxRecDepth 100000 in
set_option maxHeartbeats 8000000 in
theorem kn16 (n : Nat) {G : World → Prop}  {G1 : Nat → World → Prop} {G2 : Nat → Nat → World → Prop} {G3 : Nat → Nat → Nat → World → Prop} {G4 : Nat → Nat → Nat → Nat → World → Prop} (hS0 : Stable G) (hS2 : ∀ q1 g1 : Nat, Stable (G2 q1 g1)) (hS4 : ∀ q1 g1 q2 g2 : Nat, Stable (G4 q1 g1 q2 g2)) (v1 : ∀ (m : Nat) (w : World), G w → CallsIn Fence.wide m Try.prog 9 #[.agg #[.int .u8 2, .int .u8 0], .agg #[.int .u8 0, .int .u8 0]] w fun e w' => e = .returned (.int .i64 (-1)) ∧ Below w.heap.size w w') (v2 : ∀ (m : Nat) (w : World), G w → CallsIn Fence.wide m Try.prog 9 #[.agg #[.int .u8 4, .int .u8 0], .agg #[.int .u8 9, .int .u8 0]] w fun e w' => e = .returned (.int .i64 0) ∧ Below w.heap.size w w') (v3 : ∀ (m : Nat) (w : World), G w → CallsIn Fence.wide m Try.prog 9 #[.agg #[.int .u8 13, .int .u8 0], .agg #[.int .u8 0, .int .u8 0]] w fun e w' => e = .returned (.int .i64 0) ∧ Below w.heap.size w w') (hn1 : ∀ (m : Nat) (w : World), G w → CallsIn Fence.wide m Try.prog 25 #[] w fun e w' => ∃ q1, e = .returned (.pointer (some ⟨q1, 0, none⟩)) ∧ G1 q1 w') (v4 : ∀ (q1 : Nat) (g1 : Nat) (m : Nat) (w : World), (G2 q1 g1) w → CallsIn Fence.wide m Try.prog 21 #[.agg #[.int .i64 0, .int .i64 3840, .int .i64 0, .int .i64 0], .slice (some ⟨g1, 0, none⟩) 1 1] w fun e w' => e = .returned (.bool true) ∧ Below w.heap.size w w') (hn2 : ∀ (q1 : Nat) (g1 : Nat) (m : Nat) (w : World), (G2 q1 g1) w → CallsIn Fence.wide m Try.prog 25 #[] w fun e w' => ∃ q2, e = .returned (.pointer (some ⟨q2, 0, none⟩)) ∧ G3 q1 g1 q2 w') (v5 : ∀ (q1 : Nat) (g1 : Nat) (q2 : Nat) (g2 : Nat) (m : Nat) (w : World), (G4 q1 g1 q2 g2) w → CallsIn Fence.wide m Try.prog 21 #[.agg #[.int .i64 0, .int .i64 0, .int .i64 0, .int .i64 0], .slice (some ⟨g2, 0, none⟩) 1 1] w fun e w' => e = .returned (.bool false) ∧ Below w.heap.size w w') (hst20 : ∀ (q1 : Nat) (w : World), (G1 q1) w → G2 q1 w.heap.size (w.alloc (.cells #[.int .i64 0, .int .i64 0, .int .i64 0, .pointer (some ⟨q1, 0, none⟩)] 58))) (hst27 : ∀ (q1 : Nat) (g1 : Nat) (q2 : Nat) (w : World), (G3 q1 g1 q2) w → G4 q1 g1 q2 w.heap.size (w.alloc (.cells #[.int .i64 0, .int .i64 0, .int .i64 0, .pointer (some ⟨q2, 0, none⟩)] 58))) (Q : Exit → Act → World → Prop) (a : Act) (w : World) (h0 : SG [] 193 G a w)
    (hQ : ∀ (q1 : Nat) (g1 : Nat) (q2 : Nat) (g2 : Nat) a w, SG [(0, .bool true)] 193 (G4 q1 g1 q2 g2) a w → Q .normal a w) : (regOf 16 C6).wpIn Fence.wide n Try.prog Q a w := by
  simp only [regOf, C6, Try.f6, Option.getD, Nat.reduceBEq, Bool.false_eq_true, if_true, if_false]
  refine region_sq (fun k_ a w => match k_ with | 0 => SG [] 193 G a w | 1 => SG [(162, .agg #[.int .u8 2, .int .u8 0])] 193 G a w | 2 => SG [(162, .agg #[.int .u8 2, .int .u8 0]), (163, .agg #[.int .u8 0, .int .u8 0])] 193 G a w | 3 => SG [(164, .int .i64 (-1))] 193 G a w | 4 => SG [(165, .bool true)] 193 G a w | 5 => SG [(166, .bool true)] 193 G a w | 6 => SG [(166, .bool true), (167, .agg #[.int .u8 4, .int .u8 0])] 193 G a w | 7 => SG [(166, .bool true), (167, .agg #[.int .u8 4, .int .u8 0]), (168, .agg #[.int .u8 9, .int .u8 0])] 193 G a w | 8 => SG [(166, .bool true), (169, .int .i64 0)] 193 G a w | 9 => SG [(166, .bool true), (170, .bool true)] 193 G a w | 10 => SG [(171, .bool true)] 193 G a w | 11 => SG [(172, .bool true)] 193 G a w | 12 => SG [(172, .bool true), (173, .agg #[.int .u8 13, .int .u8 0])] 193 G a w | 13 => SG [(172, .bool true), (173, .agg #[.int .u8 13, .int .u8 0]), (174, .agg #[.int .u8 0, .int .u8 0])] 193 G a w | 14 => SG [(172, .bool true), (175, .int .i64 0)] 193 G a w | 15 => SG [(172, .bool true), (176, .bool true)] 193 G a w | 16 => SG [(177, .bool true)] 193 G a w | 17 => SG [(178, .bool true)] 193 G a w | 18 => SG [(178, .bool true), (179, .agg #[.int .i64 0, .int .i64 3840, .int .i64 0, .int .i64 0])] 193 G a w | 19 => ∃ q1, SG [(178, .bool true), (179, .agg #[.int .i64 0, .int .i64 3840, .int .i64 0, .int .i64 0]), (180, .pointer (some ⟨q1, 0, none⟩))] 193 (G1 q1) a w | 20 => ∃ q1, SG [(178, .bool true), (179, .agg #[.int .i64 0, .int .i64 3840, .int .i64 0, .int .i64 0]), (181, .agg #[.int .i64 0, .int .i64 0, .int .i64 0, .pointer (some ⟨q1, 0, none⟩)])] 193 (G1 q1) a w | 21 => ∃ q1 g1, SG [(178, .bool true), (179, .agg #[.int .i64 0, .int .i64 3840, .int .i64 0, .int .i64 0]), (182, .slice (some ⟨g1, 0, none⟩) 1 1)] 193 (G2 q1 g1) a w | 22 => ∃ q1 g1, SG [(178, .bool true), (183, .bool true)] 193 (G2 q1 g1) a w | 23 => ∃ q1 g1, SG [(184, .bool true)] 193 (G2 q1 g1) a w | 24 => ∃ q1 g1, SG [(185, .bool true)] 193 (G2 q1 g1) a w | 25 => ∃ q1 g1, SG [(185, .bool true), (186, .agg #[.int .i64 0, .int .i64 0, .int .i64 0, .int .i64 0])] 193 (G2 q1 g1) a w | 26 => ∃ q1 g1 q2, SG [(185, .bool true), (186, .agg #[.int .i64 0, .int .i64 0, .int .i64 0, .int .i64 0]), (187, .pointer (some ⟨q2, 0, none⟩))] 193 (G3 q1 g1 q2) a w | 27 => ∃ q1 g1 q2, SG [(185, .bool true), (186, .agg #[.int .i64 0, .int .i64 0, .int .i64 0, .int .i64 0]), (188, .agg #[.int .i64 0, .int .i64 0, .int .i64 0, .pointer (some ⟨q2, 0, none⟩)])] 193 (G3 q1 g1 q2) a w | 28 => ∃ q1 g1 q2 g2, SG [(185, .bool true), (186, .agg #[.int .i64 0, .int .i64 0, .int .i64 0, .int .i64 0]), (189, .slice (some ⟨g2, 0, none⟩) 1 1)] 193 (G4 q1 g1 q2 g2) a w | 29 => ∃ q1 g1 q2 g2, SG [(185, .bool true), (190, .bool false)] 193 (G4 q1 g1 q2 g2) a w | 30 => ∃ q1 g1 q2 g2, SG [(185, .bool true), (191, .bool true)] 193 (G4 q1 g1 q2 g2) a w | 31 => ∃ q1 g1 q2 g2, SG [(192, .bool true)] 193 (G4 q1 g1 q2 g2) a w | _ => ∃ q1 g1 q2 g2, SG [(0, .bool true)] 193 (G4 q1 g1 q2 g2) a w) (show SG _ _ G a w from h0) ⟨?_, ?_, ?_, ?_, ?_, ?_, ?_, ?_, ?_, ?_, ?_, ?_, ?_, ?_, ?_, ?_, ?_, ?_, ?_, ?_, ?_, ?_, ?_, ?_, ?_, ?_, ?_, ?_, ?_, ?_, ?_, ?_, trivial⟩ ?_
  · intro a w hI
    have hI : SG _ _ _ a w := hI
    go_simp
    exact hI.put (d := 162) (by decide) (by simp) hI.wp
  · intro a w hI
    have hI : SG _ _ _ a w := hI
    go_simp
    exact hI.put (d := 163) (by decide) (by simp) hI.wp
  · intro a w hI
    have hI : SG _ _ _ a w := hI
    have e162 := hI.g 162 rfl
    have e163 := hI.g 163 rfl
    go_simp
    refine ⟨trivial, fun h => (by cases h), (v1 (n - 1) w hI.wp).mono ?_⟩
    rintro e w' ⟨rfl, hb2⟩
    exact hI.put (d := 164) (by decide) (by simp) (hS0 _ _ hI.wp hb2)
  · intro a w hI
    have hI : SG _ _ _ a w := hI
    have e164 := hI.g 164 rfl
    go_simp
    exact hI.put (d := 165) (by decide) (by simp) hI.wp
  · intro a w hI
    have hI : SG _ _ _ a w := hI
    have e165 := hI.g 165 rfl
    go_simp
    exact hI.put (d := 166) (by decide) (by simp) hI.wp
  · intro a w hI
    have hI : SG _ _ _ a w := hI
    have e166 := hI.g 166 rfl
    have f166 := slot_bool e166
    go_simp
    exact hI.put (d := 167) (by decide) (by simp) hI.wp
  · intro a w hI
    have hI : SG _ _ _ a w := hI
    have e166 := hI.g 166 rfl
    have f166 := slot_bool e166
    go_simp
    exact hI.put (d := 168) (by decide) (by simp) hI.wp
  · intro a w hI
    have hI : SG _ _ _ a w := hI
    have e167 := hI.g 167 rfl
    have e168 := hI.g 168 rfl
    have e166 := hI.g 166 rfl
    have f166 := slot_bool e166
    go_simp
    refine ⟨trivial, fun h => (by cases h), (v2 (n - 1) w hI.wp).mono ?_⟩
    rintro e w' ⟨rfl, hb2⟩
    exact hI.put (d := 169) (by decide) (by simp) (hS0 _ _ hI.wp hb2)
  · intro a w hI
    have hI : SG _ _ _ a w := hI
    have e169 := hI.g 169 rfl
    have e166 := hI.g 166 rfl
    have f166 := slot_bool e166
    go_simp
    exact hI.put (d := 170) (by decide) (by simp) hI.wp
  · intro a w hI
    have hI : SG _ _ _ a w := hI
    have e166 := hI.g 166 rfl
    have e170 := hI.g 170 rfl
    go_simp
    exact hI.put (d := 171) (by decide) (by simp) hI.wp
  · intro a w hI
    have hI : SG _ _ _ a w := hI
    have e171 := hI.g 171 rfl
    go_simp
    exact hI.put (d := 172) (by decide) (by simp) hI.wp
  · intro a w hI
    have hI : SG _ _ _ a w := hI
    have e172 := hI.g 172 rfl
    have f172 := slot_bool e172
    go_simp
    exact hI.put (d := 173) (by decide) (by simp) hI.wp
  · intro a w hI
    have hI : SG _ _ _ a w := hI
    have e172 := hI.g 172 rfl
    have f172 := slot_bool e172
    go_simp
    exact hI.put (d := 174) (by decide) (by simp) hI.wp
  · intro a w hI
    have hI : SG _ _ _ a w := hI
    have e173 := hI.g 173 rfl
    have e174 := hI.g 174 rfl
    have e172 := hI.g 172 rfl
    have f172 := slot_bool e172
    go_simp
    refine ⟨trivial, fun h => (by cases h), (v3 (n - 1) w hI.wp).mono ?_⟩
    rintro e w' ⟨rfl, hb2⟩
    exact hI.put (d := 175) (by decide) (by simp) (hS0 _ _ hI.wp hb2)
  · intro a w hI
    have hI : SG _ _ _ a w := hI
    have e175 := hI.g 175 rfl
    have e172 := hI.g 172 rfl
    have f172 := slot_bool e172
    go_simp
    exact hI.put (d := 176) (by decide) (by simp) hI.wp
  · intro a w hI
    have hI : SG _ _ _ a w := hI
    have e172 := hI.g 172 rfl
    have e176 := hI.g 176 rfl
    go_simp
    exact hI.put (d := 177) (by decide) (by simp) hI.wp
  · intro a w hI
    have hI : SG _ _ _ a w := hI
    have e177 := hI.g 177 rfl
    go_simp
    exact hI.put (d := 178) (by decide) (by simp) hI.wp
  · intro a w hI
    have hI : SG _ _ _ a w := hI
    have e178 := hI.g 178 rfl
    have f178 := slot_bool e178
    go_simp
    exact hI.put (d := 179) (by decide) (by simp) hI.wp
  · intro a w hI
    have hI : SG _ _ _ a w := hI
    have e178 := hI.g 178 rfl
    have f178 := slot_bool e178
    go_simp
    refine ⟨trivial, fun h => (by cases h), (hn1 (n - 1) w hI.wp).mono ?_⟩
    rintro e w' ⟨q1, rfl, hg2⟩
    exact ⟨q1, hI.put (d := 180) (by decide) (by simp) hg2⟩
  · rintro a w ⟨q1, hI⟩
    have e180 := hI.g 180 rfl
    have e178 := hI.g 178 rfl
    have f178 := slot_bool e178
    go_simp
    exact ⟨q1, hI.put (d := 181) (by decide) (by simp) hI.wp⟩
  · rintro a w ⟨q1, hI⟩
    have e181 := hI.g 181 rfl
    have e178 := hI.g 178 rfl
    have f178 := slot_bool e178
    go_simp
    exact ⟨q1, w.heap.size, hI.put (d := 182) (by decide) (by simp) (hst20 q1 w hI.wp)⟩
  · rintro a w ⟨q1, g1, hI⟩
    have e179 := hI.g 179 rfl
    have e182 := hI.g 182 rfl
    have e178 := hI.g 178 rfl
    have f178 := slot_bool e178
    go_simp
    refine ⟨trivial, fun h => (by cases h), (v4 q1 g1 (n - 1) w hI.wp).mono ?_⟩
    rintro e w' ⟨rfl, hb2⟩
    exact ⟨q1, g1, hI.put (d := 183) (by decide) (by simp) (hS2 q1 g1 _ _ hI.wp hb2)⟩
  · rintro a w ⟨q1, g1, hI⟩
    have e178 := hI.g 178 rfl
    have e183 := hI.g 183 rfl
    go_simp
    exact ⟨q1, g1, hI.put (d := 184) (by decide) (by simp) hI.wp⟩
  · rintro a w ⟨q1, g1, hI⟩
    have e184 := hI.g 184 rfl
    go_simp
    exact ⟨q1, g1, hI.put (d := 185) (by decide) (by simp) hI.wp⟩
  · rintro a w ⟨q1, g1, hI⟩
    have e185 := hI.g 185 rfl
    have f185 := slot_bool e185
    go_simp
    exact ⟨q1, g1, hI.put (d := 186) (by decide) (by simp) hI.wp⟩
  · rintro a w ⟨q1, g1, hI⟩
    have e185 := hI.g 185 rfl
    have f185 := slot_bool e185
    go_simp
    refine ⟨trivial, fun h => (by cases h), (hn2 q1 g1 (n - 1) w hI.wp).mono ?_⟩
    rintro e w' ⟨q2, rfl, hg2⟩
    exact ⟨q1, g1, q2, hI.put (d := 187) (by decide) (by simp) hg2⟩
  · rintro a w ⟨q1, g1, q2, hI⟩
    have e187 := hI.g 187 rfl
    have e185 := hI.g 185 rfl
    have f185 := slot_bool e185
    go_simp
    exact ⟨q1, g1, q2, hI.put (d := 188) (by decide) (by simp) hI.wp⟩
  · rintro a w ⟨q1, g1, q2, hI⟩
    have e188 := hI.g 188 rfl
    have e185 := hI.g 185 rfl
    have f185 := slot_bool e185
    go_simp
    exact ⟨q1, g1, q2, w.heap.size, hI.put (d := 189) (by decide) (by simp) (hst27 q1 g1 q2 w hI.wp)⟩
  · rintro a w ⟨q1, g1, q2, g2, hI⟩
    have e186 := hI.g 186 rfl
    have e189 := hI.g 189 rfl
    have e185 := hI.g 185 rfl
    have f185 := slot_bool e185
    go_simp
    refine ⟨trivial, fun h => (by cases h), (v5 q1 g1 q2 g2 (n - 1) w hI.wp).mono ?_⟩
    rintro e w' ⟨rfl, hb2⟩
    exact ⟨q1, g1, q2, g2, hI.put (d := 190) (by decide) (by simp) (hS4 q1 g1 q2 g2 _ _ hI.wp hb2)⟩
  · rintro a w ⟨q1, g1, q2, g2, hI⟩
    have e190 := hI.g 190 rfl
    have e185 := hI.g 185 rfl
    have f185 := slot_bool e185
    go_simp
    exact ⟨q1, g1, q2, g2, hI.put (d := 191) (by decide) (by simp) hI.wp⟩
  · rintro a w ⟨q1, g1, q2, g2, hI⟩
    have e185 := hI.g 185 rfl
    have e191 := hI.g 191 rfl
    go_simp
    exact ⟨q1, g1, q2, g2, hI.put (d := 192) (by decide) (by simp) hI.wp⟩
  · rintro a w ⟨q1, g1, q2, g2, hI⟩
    have e192 := hI.g 192 rfl
    go_simp
    exact ⟨q1, g1, q2, g2, hI.put (d := 0) (by decide) (by simp) hI.wp⟩
  · rintro a w ⟨q1, g1, q2, g2, hI⟩
    exact hQ q1 g1 q2 g2 a w hI
/-! ### Awake -/
open Pf (cellK cellL mayS spotV I64 U8 Gives movR totI totB ledgV mvd)
theorem i64 {x : Int} (h1 : -9223372036854775808 ≤ x) (h2 : x ≤ 9223372036854775807) : I64 x := ⟨h1, h2⟩
theorem u8i {x : Int} (h1 : 0 ≤ x) (h2 : x ≤ 255) : U8 x := ⟨h1, h2⟩
theorem byt0 : Byt fun _ => 0 := byt_zero
abbrev hNew (q : Nat) : Hd := ⟨(0, 0, 0), some (q, fun _ => 0)⟩
abbrev hLand (r : Nat) (y : Int) : Hd := ⟨(0, y, 0), some (r, landA 0)⟩
theorem okS_y {y : Int} (h : I64 y) : okS (0, y, 0) := ⟨(i64 (by omega) (by omega) : I64 0), h, (i64 (by omega) (by omega) : I64 0)⟩
theorem okNew {q : Nat} {w : World} (h : CkW w q (fun _ => 0) (fun _ => 0)) : okS (hNew q).sp ∧ (hNew q).lies w := ⟨okS_y (i64 (by omega) (by omega)), byt_zero, _, h⟩
theorem okLand {r : Nat} {w : World} {y : Int} (hy : I64 y) (h : CkW w r (landA 0) (landB 0)) : okS (hLand r y).sp ∧ (hLand r y).lies w := ⟨okS_y hy, byt_landA 0, _, h⟩
theorem C11_eq : C11 = .seq (regOf 0 C11) (.seq (regOf 1 C11) (.seq (regOf 2 C11) .ret)) := by kernel_rfl
theorem moved {a b c : Int} (ha : 0 ≤ a ∧ a ≤ 255) (hb : 0 ≤ b ∧ b ≤ 255) (hv : mvd a b = c) (n : Nat) (w : World) : CallsIn Fence.wide n Try.prog 9 #[.agg #[.int .u8 a, .int .u8 0], .agg #[.int .u8 b, .int .u8 0]] w fun e w' => e = .returned (.int .i64 c) ∧ Below w.heap.size w w' := by
  rw [← hv]
  exact Pf.c9 ha (u8i (by omega) (by omega)) hb (u8i (by omega) (by omega)) n w
theorem awake_in (n : Nat) (w : World) : CallsIn Fence.wide n Try.prog 11 #[] w fun e w' => e = .returned (.bool true) ∧ Below w.heap.size w w' := by
  refine callsIn_of_wp Try.func11 rfl trivial ?_
  show C11.wpIn _ _ _ _ _ _
  rw [C11_eq]
  refine wpIn_seq (aw0 n w _ _ ⟨by simp [Try.ntmps11], rfl, by simp, rfl⟩ ?_)
  intro a1 s1
  refine wpIn_seq (aw1 n (G := Below w.heap.size w) (G1 := fun r w' => Below w.heap.size w w' ∧ CkW w' r (fun _ => 0) (fun _ => 0)) (fun r => belS.and (CkW.stable _ _ _))
    (fun m w' hw => (new_in m w').mono ?_) (fun r m w' hw => ?_) _ a1 w (s1.sg (Below.refl _ _)) ?_)
  · rintro e w3 ⟨r, rfl, h1, _, h2⟩
    exact ⟨r, rfl, belS _ _ hw h1, h2⟩
  · have := more_all (okNew hw.2).1 (okNew hw.2).2 m
    rw [mS_new0] at this
    exact this
  intro r a2 w2 s2
  refine wpIn_seq (aw2 n (belS.and (CkW.stable _ _ _)) (fun m w _ => Pf.t1 m w) (fun m w _ => moved (by omega) (by omega) (by decide +kernel) m w) _ a2 w2 s2 ?_)
  intro a3 w3 s3
  exact wpIn_ret ⟨s3.defers, _, results_tmp (t := 0) rfl _ _ _, by rw [Array.getD_eq_getD_getElem?, s3.g 0 rfl], s3.wp.1⟩
/-! ### The examples -/
theorem blkS {g : Nat} {o : Obj} : Stable fun w => w.heap[g]? = some o := fun w w' h hb => (hb.block g (Array.getElem?_eq_some_iff.1 h).1).trans h
theorem Stable.alloc {G : World → Prop} (hG : Stable G) {w : World} (h : G w) (o : Obj) : G (w.alloc o) := hG _ _ h ((Below.refl _ _).alloc (Nat.le_refl _) _)
/-- The land's chunk lies in block r. -/
abbrev GL (w0 : World) (r : Nat) (w : World) : Prop := Below w0.heap.size w0 w ∧ CkW w r (landA 0) (landB 0)
theorem GL.s {w0 : World} {r : Nat} : Stable (GL w0 r) := belS.and (CkW.stable _ _ _)
abbrev GN (w : World) (q : Nat) : Prop := CkW w q (fun _ => 0) (fun _ => 0)
theorem GN.s {q : Nat} : Stable fun w => GN w q := CkW.stable _ _ _
theorem C6_eq : C6 = .seq (regOf 0 C6) (.seq (.seq (regOf 1 C6) (.cond (.tmp 39) (.seq (regOf 2 C6) .ret) .skip)) (.seq (regOf 3 C6) (.seq (regOf 4 C6) (.seq (regOf 5 C6) (.seq (regOf 6 C6) (.seq (regOf 7 C6) (.seq (.seq (regOf 8 C6) (.cond (.tmp 93) (.seq (regOf 9 C6) .ret) .skip)) (.seq (regOf 10 C6) (.seq (regOf 11 C6) (.seq (regOf 12 C6) (.seq (regOf 13 C6) (.seq (.seq (regOf 14 C6) (.cond (.tmp 161) (.seq (regOf 15 C6) .ret) .skip)) (.seq (regOf 16 C6) .ret))))))))))))) := by kernel_rfl
theorem new_g {G : World → Prop} (hG : Stable G) {w : World} (h : G w) (n : Nat) : CallsIn Fence.wide n Try.prog 25 #[] w fun e w' => ∃ q, e = .returned (ptr q) ∧ G w' ∧ GN w' q :=
  (new_in n w).mono (by
    rintro e w3 ⟨r, rfl, h1, _, h2⟩
    exact ⟨r, rfl, hG _ _ h h1, h2⟩)
abbrev o4 (q : Nat) : Obj := .cells #[.int .i64 0, .int .i64 0, .int .i64 0, .pointer (some ⟨q, 0, none⟩)] 58 (0, 0)
set_option maxHeartbeats 4000000 in
theorem known_in (n : Nat) (w0 : World) : CallsIn Fence.wide n Try.prog 6 #[] w0 fun e w' => e = .returned (.bool true) ∧ Below w0.heap.size w0 w' := by
  refine callsIn_of_wp Try.func6 rfl trivial ?_
  show C6.wpIn _ _ _ _ _ _
  rw [C6_eq]
  have i0 : I64 0 := i64 (by omega) (by omega)
  have i1 : I64 1 := i64 (by omega) (by omega)
  have i4 : I64 4 := i64 (by omega) (by omega)
  refine wpIn_seq (kn0 n w0 _ _ ⟨by simp [Try.ntmps6], rfl, by simp, rfl⟩ ?_)
  intro a1 s1
  refine wpIn_seq (wpIn_seq (kn1 n belS (fun m w _ => awake_in m w) (fun m w _ => Pf.t2 m w) (fun m w _ => Pf.t3 m w) (fun m w _ => Pf.t4 m w) (fun m w _ => Pf.t5 m w) (fun m w _ => Pf.t6 m w) (fun m w _ => Pf.t7 m w) _ a1 w0 (s1.sg (Below.refl _ _)) ?_))
  intro a2 w2 s2
  refine wpIn_cond (t := false) (by rw [eval_tmp]; exact s2.g 39 rfl) (wpIn_skip ?_)
  refine wpIn_seq (kn3 n (G1 := GL w0) (fun m w hw => (land_may m w i0 i0 i0 (by decide)).mono ?_) _ a2 w2 (s2.sub (by simp)) ?_)
  · rintro e w3 ⟨r, rfl, h1, _, h2⟩
    exact ⟨r, rfl, belS _ _ hw h1, h2⟩
  intro r a3 w3 s3
  have more : ∀ {y : Int} (hy : I64 y) (a b : Int), moreS (hLand r y) = (a, b) → ∀ m w, GL w0 r w → CallsIn Fence.wide m Try.prog 13 #[ptr r, spotV 0 y 0] w fun e w' => e = .returned (.tuple #[.int .i64 a, .int .i64 b]) ∧ Below w.heap.size w w' := by
    intro y hy a b hm m w hw
    have := more_all (okLand hy hw.2).1 (okLand hy hw.2).2 m
    rw [hm] at this
    exact this
  refine wpIn_seq (kn4 n GL.s r (more i0 0 0 (mS_land0 r)) _ a3 w3 s3 ?_)
  intro a4 w4 s4
  refine wpIn_seq (kn5 n GL.s r (more i1 3840 0 (mS_land1 r)) _ a4 w4 s4 ?_)
  intro a5 w5 s5
  refine wpIn_seq (kn6 n GL.s r (fun m w _ => more_nil m w) _ a5 w5 s5 ?_)
  intro a6 w6 s6
  refine wpIn_seq (kn7 n GL.s r (more i4 0 10 (mS_land4 r)) _ a6 w6 s6 ?_)
  intro a7 w7 s7
  refine wpIn_seq (wpIn_seq (kn8 n GL.s r _ a7 w7 s7 ?_))
  intro a8 w8 s8
  refine wpIn_cond (t := false) (by rw [eval_tmp]; exact s8.g 93 rfl) (wpIn_skip ?_)
  refine wpIn_seq (kn10 n (G := GL w0 r) r (G1 := fun q w => GL w0 r w ∧ GN w q) (G2 := fun q g w => (GL w0 r w ∧ GN w q) ∧ w.heap[g]? = some (.cells #[.int .i64 0, .int .i64 0, .int .i64 0, .pointer (some ⟨q, 0, none⟩), .int .i64 0, .int .i64 1, .int .i64 0, .pointer (some ⟨r, 0, none⟩)] 58 (0, 0)))
    (fun q g => (GL.s.and GN.s).and blkS) (fun m w hw => new_g GL.s hw m) (fun q g m w hw => ?_) (fun q w hw => ⟨(GL.s.and GN.s).alloc hw _, World.alloc_heap_new w _⟩) _ a8 w8 (s8.sub (by simp)) ?_)
  · have := total_in (l := [hNew q, hLand r 1]) (cp := 2) (fun _ => rfl) (row2 hw.2 (okNew hw.1.2) (okLand i1 hw.1.1.2)) (show 2 ≤ 100000 by omega) m
    rw [tS1] at this
    exact this
  intro q g a10 w10 s10
  have hG10 := s10.wp.1.1
  refine wpIn_seq (kn11 n GL.s r (fun m w hw => ?_) _ a10 w10 (s10.none hG10) ?_)
  · exact total_in (l := []) (cp := 0) (gp := none) (fun h => by cases h) (row0 w 0) (by decide) m
  intro a11 w11 s11
  refine wpIn_seq (kn12 n (G := GL w0 r) r (G1 := fun g w => GL w0 r w ∧ w.heap[g]? = some (.cells #[.int .i64 0, .int .i64 0, .int .i64 0, .pointer (some ⟨r, 0, none⟩), .int .i64 0, .int .i64 0, .int .i64 0, .pointer (some ⟨r, 0, none⟩)] 58 (0, 0)))
    (fun g => GL.s.and blkS) (fun g m w hw => ?_) (fun w hw => ⟨GL.s.alloc hw _, World.alloc_heap_new w _⟩) _ a11 w11 s11 ?_)
  · have := total_in (l := [hLand r 0, hLand r 0]) (cp := 2) (fun _ => rfl) (row2 hw.2 (okLand i0 hw.1.2) (okLand i0 hw.1.2)) (show 2 ≤ 100000 by omega) m
    rw [tS2] at this
    exact this
  intro g2 a12 w12 s12
  have hG12 := s12.wp.1
  refine wpIn_seq (kn13 n (G := GL w0 r) r (kdK 4 16 : Nat) (kdK 5 16 : Nat) (kdK 6 16 : Nat) (kdK 7 16 : Nat) (kdK 8 16 : Nat) (kdK 9 16 : Nat) (kdK 10 16 : Nat) (kdK 11 16 : Nat) (kdK 12 16 : Nat) (kdK 13 16 : Nat) (kdK 14 16 : Nat)
    (G1 := fun o w => Below w0.heap.size w0 w ∧ w.heap[o]? = some (.cells zr15 39 (0, 0)) ∧ w0.heap.size ≤ o)
    (G2 := fun o w => Below w0.heap.size w0 w ∧ w.heap[o]? = some (.cells (arrK (kdC (landA 0) 4096)) 39 (0, 0))) GL.s (fun m w hw => ?_)
    (fun w hw => ⟨belS.alloc hw.1 _, World.alloc_heap_new w _, hw.1.size⟩) (fun o w hw => ?_) _ a12 w12 (s12.none hG12) ?_)
  · rw [← arr_land]
    exact kinds_in (byt_landA 0) m w hw.2
  · have := Sx.run_store_of (P := Try.prog) (w := w) (g := o) (o := 0) (t := 39) (v := .agg (arrK (kdC (landA 0) 4096))) (vs := (arrK (kdC (landA 0) 4096)).toList) (by simp [Value.cells]) (by rw [Array.length_toList, arrK_size]; kernel_rfl) hw.2.1 (by rw [Array.length_toList, arrK_size]; decide) (arrK_one _)
    rw [← arr_land]
    refine ⟨_, this, below_setRow hw.1 hw.2.2 _, ?_⟩
    rw [setRow_heap w o _ _ 39 (0, 0) hw.2.1]
    have e : ∀ (c z : Array Value), z.size = 15 → c.size = 15 → (List.take 0 z.toList ++ c.toList ++ List.drop (0 + c.toList.length) z.toList).toArray = c := fun c z hz hc => by rw [List.take_zero, List.nil_append, List.drop_eq_nil_of_le (by simp [hz, hc]), List.append_nil]
    rw [e _ _ rfl (arrK_size _)]
  intro o a13 w13 s13
  have hb13 := s13.wp.1
  have cell : ∀ {w : World}, (Below w0.heap.size w0 w ∧ w.heap[o]? = some (.cells (arrK (kdC (landA 0) 4096)) 39 (0, 0))) → ∀ {j : Nat} {v : Value}, (arrK (kdC (landA 0) 4096))[j]? = some v → w.cell? ⟨o, j, none⟩ = some v := fun hw _ _ hv => by simp [World.cell?, hw.2, hv]
  refine wpIn_seq (wpIn_seq (kn14 n o (belS.and blkS) (fun w hw => cell hw (by rw [arr_land]; rfl)) (fun w hw => cell hw (by rw [arr_land]; rfl)) (fun w hw => cell hw (by rw [arr_land]; rfl)) (fun w hw => cell hw (by rw [arr_land]; rfl)) (fun m w _ => kinds_nil m w) _ a13 w13 s13 ?_))
  intro a14 w14 s14
  refine wpIn_cond (t := false) (by rw [eval_tmp]; exact s14.g 161 rfl) (wpIn_skip ?_)
  have holds : ∀ {x1 : Int} (h1 : I64 x1) {v : Bool}, (totB 0 x1 0 0 && (totI 0 x1 0 0 == -3840)) = v → ∀ {q g : Nat} (m : Nat) (w : World), GN w q → w.heap[g]? = some (o4 q) → CallsIn Fence.wide m Try.prog 21 #[ledgV 0 x1 0 0, .slice (some ⟨g, 0, none⟩) 1 1] w fun e w' => e = .returned (.bool v) ∧ Below w.heap.size w w' := by
    intro x1 h1 v hv q g m w hq hg
    have := holds_in i0 h1 i0 i0 (l := [hNew q]) (cp := 1) (fun _ => rfl) (row1 hg (okNew hq)) (show 1 ≤ 100000 by omega) m
    rw [tS3] at this
    rw [← hv]
    exact this
  refine wpIn_seq (kn16 n (G := Below w0.heap.size w0) (G1 := fun q w => Below w0.heap.size w0 w ∧ GN w q) (G2 := fun q g w => (Below w0.heap.size w0 w ∧ GN w q) ∧ w.heap[g]? = some (o4 q))
    (G3 := fun _ _ q w => Below w0.heap.size w0 w ∧ GN w q) (G4 := fun _ _ q g w => (Below w0.heap.size w0 w ∧ GN w q) ∧ w.heap[g]? = some (o4 q)) belS (fun q g => (belS.and GN.s).and blkS) (fun _ _ q g => (belS.and GN.s).and blkS)
    (fun m w _ => moved (by omega) (by omega) (by decide +kernel) m w) (fun m w _ => moved (by omega) (by omega) (by decide +kernel) m w) (fun m w _ => moved (by omega) (by omega) (by decide +kernel) m w)
    (fun m w hw => new_g belS hw m) (fun q g m w hw => holds (i64 (by omega) (by omega)) (by decide) m w hw.1.2 hw.2) (fun q g m w hw => new_g belS hw.1.1 m) (fun _ _ q g m w hw => holds i0 (by decide) m w hw.1.2 hw.2)
    (fun q w hw => ⟨(belS.and GN.s).alloc hw _, World.alloc_heap_new w _⟩) (fun _ _ q w hw => ⟨(belS.and GN.s).alloc hw _, World.alloc_heap_new w _⟩) _ a14 w14 ((s14.sub (by simp)).none s14.wp.1) ?_)
  intro _ _ _ _ a16 w16 s16
  exact wpIn_ret ⟨s16.defers, _, results_tmp (t := 0) rfl _ _ _, by rw [Array.getD_eq_getD_getElem?, s16.g 0 rfl], s16.wp.1.1⟩
end Go.Proofs.Ytigblagodlfedaa
