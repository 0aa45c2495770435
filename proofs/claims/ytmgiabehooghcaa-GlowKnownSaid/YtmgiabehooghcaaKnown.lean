/- Glow: the walk of a law. -/
import Derived.RangeFuncNested
import Derived.RangeFuncBound
import Derived.RangeFuncCalls
import Derived.RangeFuncLeaves
import Derived.Shelf.Abstract
import Derived.Shelf.RegionOpen
import Derived.WalkKit
import Derived.OwnWalkIn
import Derived.TacticsInMore
import Derived.LoopNIn
import Derived.LoopIn
import Derived.Lib.Hide
import Derived.IntWalk
import Derived.Maps.AppendAt
import Derived.Test.YtmgiabehooghcaaKc
import Derived.Test.YtmgiabehooghcaaGin
import Derived.Test.YtmgiabehooghcaaH5
set_option linter.unusedVariables false
set_option linter.unusedSimpArgs false
namespace Go.Proofs.Ytmgiabehooghcaa
open Go.RowKit Go.Shelf
attribute [local go_sem] Oper.semAt_some

/-! ### GlowKnown: its parts -/
noncomputable def C10 : Code := Try.f10.body.getD .skip
theorem info32 : (Try.prog.info? 32).map (fun i => (i.zero, i.size, i.bytes)) = some (some (.agg #[.int .u8 0, .int .u8 0]), 2, 2) := by kernel_rfl
theorem under22 : Try.prog.underlying 22 = some (.slice 32) := by kernel_rfl
abbrev o2 (t : TypeId) (a b : Nat) : Obj := .cells #[.int .u8 a, .int .u8 b] t (0, 0)
set_option maxRecDepth 100000 in
set_option maxHeartbeats 4000000 in
theorem kn1 (n : Nat) (W0 : World) (Q : Exit → Act → World → Prop) (a : Act) (w : World) (h0 : SG [] 203 (Has W0 []) a w)
    (hQ : ∀ s1 s2 a w, SG [(1, .pointer (some ⟨s1, 0, none⟩)), (2, .pointer (some ⟨s2, 0, none⟩))] 203 (Has W0 [(s2, o2 32 2 0), (s1, o2 32 0 0)]) a w → Q .normal a w) : (regOf 1 C10).wpIn Fence.wide n Try.prog Q a w := by
  simp only [regOf, C10, Try.f10, Option.getD, Nat.reduceBEq, Bool.false_eq_true, if_true, if_false]
  refine region_sq (fun k_ a w => match k_ with | 0 => SG [] 203 (Has W0 []) a w | 1 => SG [(21, .agg #[.int .u8 0, .int .u8 0])] 203 (Has W0 []) a w | 2 => SG [(21, .agg #[.int .u8 0, .int .u8 0]), (22, .agg #[.int .u8 2, .int .u8 0])] 203 (Has W0 []) a w | 3 => ∃ s1, SG [(21, .agg #[.int .u8 0, .int .u8 0]), (22, .agg #[.int .u8 2, .int .u8 0]), (1, .pointer (some ⟨s1, 0, none⟩))] 203 (Has W0 [(s1, o2 32 0 0)]) a w | 4 => ∃ s1 s2, SG [(21, .agg #[.int .u8 0, .int .u8 0]), (22, .agg #[.int .u8 2, .int .u8 0]), (1, .pointer (some ⟨s1, 0, none⟩)), (2, .pointer (some ⟨s2, 0, none⟩))] 203 (Has W0 [(s2, o2 32 0 0), (s1, o2 32 0 0)]) a w | 5 => ∃ s1 s2, SG [(22, .agg #[.int .u8 2, .int .u8 0]), (1, .pointer (some ⟨s1, 0, none⟩)), (2, .pointer (some ⟨s2, 0, none⟩))] 203 (Has W0 [(s2, o2 32 0 0), (s1, o2 32 0 0)]) a w | _ => ∃ s1 s2, SG [(1, .pointer (some ⟨s1, 0, none⟩)), (2, .pointer (some ⟨s2, 0, none⟩))] 203 (Has W0 [(s2, o2 32 2 0), (s1, o2 32 0 0)]) a w) h0 ⟨?_, ?_, ?_, ?_, ?_, ?_, trivial⟩ ?_
  · intro a w hI
    have hI : SG _ _ (Has W0 []) a w := hI
    go_simp
    exact hI.put (d := 21) (by decide) (by simp) hI.wp
  · intro a w hI
    have hI : SG _ _ (Has W0 []) a w := hI
    go_simp
    exact hI.put (d := 22) (by decide) (by simp) hI.wp
  · intro a w hI
    have hI : SG _ _ (Has W0 []) a w := hI
    go_simp
    exact ⟨w.heap.size, hI.put (d := 1) (by decide) (by simp) (hI.wp.alloc (o2 32 0 0))⟩
  · rintro a w ⟨s1, hI⟩
    go_simp
    exact ⟨s1, w.heap.size, hI.put (d := 2) (by decide) (by simp) (hI.wp.alloc (o2 32 0 0))⟩
  · rintro a w ⟨s1, s2, hI⟩
    have e1 := hI.g 1 rfl
    have e21 := hI.g 21 rfl
    have k0 : w.cell? ⟨s1, 0, none⟩ = some (.int .u8 (0 : Nat)) := hI.wp.swap.cell List.mem_cons_self rfl
    have k1 : w.cell? ⟨s1, 1, none⟩ = some (.int .u8 (0 : Nat)) := hI.wp.swap.cell List.mem_cons_self rfl
    have f0 := hI.wp.swap.unfrozen List.mem_cons_self 0
    have f1 := hI.wp.swap.unfrozen List.mem_cons_self 1
    go_simp
    have h2 := ((hI.wp.swap.set (m := 0) (.int .u8 0)).set (m := 1) (.int .u8 0)).swap
    exact ⟨s1, s2, ((hI.none (G' := (Has W0 [(s2, o2 32 0 0), (s1, o2 32 0 0)])) (by simp at h2; exact h2)).sub (by simp))⟩
  · rintro a w ⟨s1, s2, hI⟩
    have e2 := hI.g 2 rfl
    have e22 := hI.g 22 rfl
    have k0 : w.cell? ⟨s2, 0, none⟩ = some (.int .u8 (0 : Nat)) := hI.wp.cell List.mem_cons_self rfl
    have k1 : w.cell? ⟨s2, 1, none⟩ = some (.int .u8 (0 : Nat)) := hI.wp.cell List.mem_cons_self rfl
    have f0 := hI.wp.unfrozen List.mem_cons_self 0
    have f1 := hI.wp.unfrozen List.mem_cons_self 1
    go_simp
    have h2 := (hI.wp.set (m := 0) (.int .u8 2)).set (m := 1) (.int .u8 0)
    exact ⟨s1, s2, ((hI.none (G' := (Has W0 [(s2, o2 32 2 0), (s1, o2 32 0 0)])) (by simp at h2; exact h2)).sub (by simp))⟩
  · rintro a w ⟨s1, s2, hI⟩
    exact hQ s1 s2 a w hI
set_option maxRecDepth 100000 in
set_option maxHeartbeats 4000000 in
theorem kn0 (n : Nat) (W : World)  (Q : Exit → Act → World → Prop) (a : Act) (h0 : SR [] 203 [] W a W)
    (hQ : ∀ a, SR [] 203 [] (W) a (W) → Q .normal a (W)) : (regOf 0 C10).wpIn Fence.wide n Try.prog Q a W := by
  simp only [regOf, C10, Try.f10, Option.getD, Nat.reduceBEq, Bool.false_eq_true, if_true, if_false]
  refine region_sq (fun k_ a w => match k_ with | 0 => SR [] 203 [] (W) a w | _ => SR [] 203 [] (W) a w) (show SR _ _ _ _ a W from h0) ⟨?_, trivial⟩ ?_
  · intro a w hI
    have hI : SR _ _ _ _ a w := hI
    have hw : w = W := hI.wp
    subst hw
    go_simp
    exact hI.put (d := 0) (by decide) (by simp)
  · intro a w hI
    have hI : SR _ _ _ _ a w := hI
    have hw : w = W := hI.wp
    subst hw
    exact hQ a hI
set_option maxRecDepth 100000 in
set_option maxHeartbeats 4000000 in
theorem kn2 (n : Nat) {G : World → Prop} (s1 s2 : Nat) (k0 : ∀ w, G w → w.cell? ⟨s1, 0, none⟩ = some (.int .u8 0)) (k1 : ∀ w, G w → w.cell? ⟨s1, 1, none⟩ = some (.int .u8 0)) (G1 : Nat → World → Prop) (hst : ∀ w, G w → G1 w.heap.size (w.alloc (.cells #[.int .u8 0, .int .u8 0, .int .u8 0, .int .u8 0, .int .u8 0, .int .u8 0] 32))) (G2 : Nat → Nat → World → Prop) (hc : ∀ m g2 w, G1 g2 w → CallsIn Fence.wide m Try.prog 14 #[.agg #[.int .i64 1, .int .i64 3, .int .i64 1, .slice (some ⟨g2, 0, none⟩) 3 3]] w fun e w' => ∃ r : Nat, e = .returned (.tuple #[.slice (some ⟨r, 0, none⟩) 3 3, .int .i64 0]) ∧ G2 g2 r w') (Q : Exit → Act → World → Prop) (a : Act) (w : World) (h0 : SG [(1, .pointer (some ⟨s1, 0, none⟩)), (2, .pointer (some ⟨s2, 0, none⟩))] 203 G a w)
    (hQ : ∀ g2 r a w, SG [(1, .pointer (some ⟨s1, 0, none⟩)), (2, .pointer (some ⟨s2, 0, none⟩)), (3, .slice (some ⟨r, 0, none⟩) 3 3), (4, .int .i64 0)] 203 (G2 g2 r) a w → Q .normal a w) : (regOf 2 C10).wpIn Fence.wide n Try.prog Q a w := by
  obtain ⟨i0, hi, hz0, hz1, hz2⟩ := info_parts info32
  simp only [regOf, C10, Try.f10, Option.getD, Nat.reduceBEq, Bool.false_eq_true, if_true, if_false]
  refine region_sq (fun k_ a w => match k_ with | 0 => SG [(1, .pointer (some ⟨s1, 0, none⟩)), (2, .pointer (some ⟨s2, 0, none⟩))] 203 G a w | 1 => SG [(1, .pointer (some ⟨s1, 0, none⟩)), (2, .pointer (some ⟨s2, 0, none⟩)), (24, .agg #[.int .u8 0, .int .u8 0])] 203 G a w | 2 => SG [(1, .pointer (some ⟨s1, 0, none⟩)), (2, .pointer (some ⟨s2, 0, none⟩)), (24, .agg #[.int .u8 0, .int .u8 0]), (25, .agg #[.int .u8 0, .int .u8 0])] 203 G a w | 3 => SG [(1, .pointer (some ⟨s1, 0, none⟩)), (2, .pointer (some ⟨s2, 0, none⟩)), (24, .agg #[.int .u8 0, .int .u8 0]), (25, .agg #[.int .u8 0, .int .u8 0]), (26, .agg #[.int .u8 0, .int .u8 0])] 203 G a w | 4 => ∃ g2, SG [(1, .pointer (some ⟨s1, 0, none⟩)), (2, .pointer (some ⟨s2, 0, none⟩)), (27, .slice (some ⟨g2, 0, none⟩) 3 3)] 203 (G1 g2) a w | 5 => ∃ g2, SG [(1, .pointer (some ⟨s1, 0, none⟩)), (2, .pointer (some ⟨s2, 0, none⟩)), (28, .agg #[.int .i64 1, .int .i64 3, .int .i64 1, .slice (some ⟨g2, 0, none⟩) 3 3])] 203 (G1 g2) a w | 6 => ∃ g2 r, SG [(1, .pointer (some ⟨s1, 0, none⟩)), (2, .pointer (some ⟨s2, 0, none⟩)), (29, .tuple #[.slice (some ⟨r, 0, none⟩) 3 3, .int .i64 0])] 203 (G2 g2 r) a w | 7 => ∃ g2 r, SG [(1, .pointer (some ⟨s1, 0, none⟩)), (2, .pointer (some ⟨s2, 0, none⟩)), (23, .tuple #[.slice (some ⟨r, 0, none⟩) 3 3, .int .i64 0])] 203 (G2 g2 r) a w | 8 => ∃ g2 r, SG [(1, .pointer (some ⟨s1, 0, none⟩)), (2, .pointer (some ⟨s2, 0, none⟩)), (23, .tuple #[.slice (some ⟨r, 0, none⟩) 3 3, .int .i64 0]), (30, .slice (some ⟨r, 0, none⟩) 3 3)] 203 (G2 g2 r) a w | 9 => ∃ g2 r, SG [(1, .pointer (some ⟨s1, 0, none⟩)), (2, .pointer (some ⟨s2, 0, none⟩)), (30, .slice (some ⟨r, 0, none⟩) 3 3), (31, .int .i64 0)] 203 (G2 g2 r) a w | 10 => ∃ g2 r, SG [(1, .pointer (some ⟨s1, 0, none⟩)), (2, .pointer (some ⟨s2, 0, none⟩)), (31, .int .i64 0), (3, .slice (some ⟨r, 0, none⟩) 3 3)] 203 (G2 g2 r) a w | _ => ∃ g2 r, SG [(1, .pointer (some ⟨s1, 0, none⟩)), (2, .pointer (some ⟨s2, 0, none⟩)), (3, .slice (some ⟨r, 0, none⟩) 3 3), (4, .int .i64 0)] 203 (G2 g2 r) a w) (show SG _ _ G a w from h0) ⟨?_, ?_, ?_, ?_, ?_, ?_, ?_, ?_, ?_, ?_, ?_, trivial⟩ ?_
  · intro a w hI
    have hI : SG _ _ G a w := hI
    have e1 := hI.g 1 rfl
    have cc0 := k0 w hI.wp
    have cc1 := k1 w hI.wp
    go_simp
    exact hI.put (d := 24) (by decide) (by simp) hI.wp
  · intro a w hI
    have hI : SG _ _ G a w := hI
    have e1 := hI.g 1 rfl
    have cc0 := k0 w hI.wp
    have cc1 := k1 w hI.wp
    go_simp
    exact hI.put (d := 25) (by decide) (by simp) hI.wp
  · intro a w hI
    have hI : SG _ _ G a w := hI
    have e1 := hI.g 1 rfl
    have cc0 := k0 w hI.wp
    have cc1 := k1 w hI.wp
    go_simp
    exact hI.put (d := 26) (by decide) (by simp) hI.wp
  · intro a w hI
    have hI : SG _ _ G a w := hI
    have e24 := hI.g 24 rfl
    have e25 := hI.g 25 rfl
    have e26 := hI.g 26 rfl
    go_simp
    exact ⟨w.heap.size, hI.put (d := 27) (by decide) (by simp) (hst w hI.wp)⟩
  · rintro a w ⟨g2, hI⟩
    have e27 := hI.g 27 rfl
    go_simp
    exact ⟨g2, hI.put (d := 28) (by decide) (by simp) hI.wp⟩
  · rintro a w ⟨g2, hI⟩
    have e28 := hI.g 28 rfl
    go_simp
    refine ⟨trivial, fun h => (by cases h), (hc (n - 1) g2 w hI.wp).mono ?_⟩
    rintro e w' ⟨r, rfl, hg2⟩
    exact ⟨g2, r, hI.put (d := 29) (by decide) (by simp) hg2⟩
  · rintro a w ⟨g2, r, hI⟩
    have e29 := hI.g 29 rfl
    go_simp
    exact ⟨g2, r, hI.put (d := 23) (by decide) (by simp) hI.wp⟩
  · rintro a w ⟨g2, r, hI⟩
    have e23 := hI.g 23 rfl
    go_simp
    exact ⟨g2, r, hI.put (d := 30) (by decide) (by simp) hI.wp⟩
  · rintro a w ⟨g2, r, hI⟩
    have e23 := hI.g 23 rfl
    go_simp
    exact ⟨g2, r, hI.put (d := 31) (by decide) (by simp) hI.wp⟩
  · rintro a w ⟨g2, r, hI⟩
    have e30 := hI.g 30 rfl
    go_simp
    exact ⟨g2, r, hI.put (d := 3) (by decide) (by simp) hI.wp⟩
  · rintro a w ⟨g2, r, hI⟩
    have e31 := hI.g 31 rfl
    go_simp
    exact ⟨g2, r, hI.put (d := 4) (by decide) (by simp) hI.wp⟩
  · rintro a w ⟨g2, r, hI⟩
    exact hQ g2 r a w hI
set_option maxRecDepth 100000 in
set_option maxHeartbeats 4000000 in
theorem kn3 (n : Nat) (W : World) (s1 s2 r : Nat) (l0 : W.cell? ⟨r, 0, none⟩ = some (.int .u8 15)) (l1 : W.cell? ⟨r, 1, none⟩ = some (.int .u8 0)) (Q : Exit → Act → World → Prop) (a : Act) (h0 : SR [(1, .pointer (some ⟨s1, 0, none⟩)), (2, .pointer (some ⟨s2, 0, none⟩)), (3, .slice (some ⟨r, 0, none⟩) 3 3), (4, .int .i64 0)] 203 [] W a W)
    (hQ : ∀ a, SR [(1, .pointer (some ⟨s1, 0, none⟩)), (2, .pointer (some ⟨s2, 0, none⟩)), (45, .bool false)] 203 [] (W) a (W) → Q .normal a (W)) : (regOf 3 C10).wpIn Fence.wide n Try.prog Q a W := by
  simp only [regOf, C10, Try.f10, Option.getD, Nat.reduceBEq, Bool.false_eq_true, if_true, if_false]
  refine region_sq (fun k_ a w => match k_ with | 0 => SR [(1, .pointer (some ⟨s1, 0, none⟩)), (2, .pointer (some ⟨s2, 0, none⟩)), (3, .slice (some ⟨r, 0, none⟩) 3 3), (4, .int .i64 0)] 203 [] (W) a w | 1 => SR [(1, .pointer (some ⟨s1, 0, none⟩)), (2, .pointer (some ⟨s2, 0, none⟩)), (3, .slice (some ⟨r, 0, none⟩) 3 3), (32, .int .i64 0)] 203 [] (W) a w | 2 => SR [(1, .pointer (some ⟨s1, 0, none⟩)), (2, .pointer (some ⟨s2, 0, none⟩)), (3, .slice (some ⟨r, 0, none⟩) 3 3), (33, .bool false)] 203 [] (W) a w | 3 => SR [(1, .pointer (some ⟨s1, 0, none⟩)), (2, .pointer (some ⟨s2, 0, none⟩)), (3, .slice (some ⟨r, 0, none⟩) 3 3), (34, .bool false)] 203 [] (W) a w | 4 => SR [(1, .pointer (some ⟨s1, 0, none⟩)), (2, .pointer (some ⟨s2, 0, none⟩)), (3, .slice (some ⟨r, 0, none⟩) 3 3), (34, .bool false), (35, .slice (some ⟨r, 0, none⟩) 3 3)] 203 [] (W) a w | 5 => SR [(1, .pointer (some ⟨s1, 0, none⟩)), (2, .pointer (some ⟨s2, 0, none⟩)), (3, .slice (some ⟨r, 0, none⟩) 3 3), (34, .bool false), (36, .int .i64 3)] 203 [] (W) a w | 6 => SR [(1, .pointer (some ⟨s1, 0, none⟩)), (2, .pointer (some ⟨s2, 0, none⟩)), (3, .slice (some ⟨r, 0, none⟩) 3 3), (34, .bool false), (37, .bool false)] 203 [] (W) a w | 7 => SR [(1, .pointer (some ⟨s1, 0, none⟩)), (2, .pointer (some ⟨s2, 0, none⟩)), (3, .slice (some ⟨r, 0, none⟩) 3 3), (38, .bool false)] 203 [] (W) a w | 8 => SR [(1, .pointer (some ⟨s1, 0, none⟩)), (2, .pointer (some ⟨s2, 0, none⟩)), (3, .slice (some ⟨r, 0, none⟩) 3 3), (39, .bool false)] 203 [] (W) a w | 9 => SR [(1, .pointer (some ⟨s1, 0, none⟩)), (2, .pointer (some ⟨s2, 0, none⟩)), (39, .bool false), (40, .slice (some ⟨r, 0, none⟩) 3 3)] 203 [] (W) a w | 10 => SR [(1, .pointer (some ⟨s1, 0, none⟩)), (2, .pointer (some ⟨s2, 0, none⟩)), (39, .bool false), (41, .pointer (some ⟨r, 0, none⟩))] 203 [] (W) a w | 11 => SR [(1, .pointer (some ⟨s1, 0, none⟩)), (2, .pointer (some ⟨s2, 0, none⟩)), (39, .bool false), (42, .agg #[.int .u8 15, .int .u8 0])] 203 [] (W) a w | 12 => SR [(1, .pointer (some ⟨s1, 0, none⟩)), (2, .pointer (some ⟨s2, 0, none⟩)), (39, .bool false), (42, .agg #[.int .u8 15, .int .u8 0]), (43, .agg #[.int .u8 15, .int .u8 0])] 203 [] (W) a w | 13 => SR [(1, .pointer (some ⟨s1, 0, none⟩)), (2, .pointer (some ⟨s2, 0, none⟩)), (39, .bool false), (44, .bool false)] 203 [] (W) a w | _ => SR [(1, .pointer (some ⟨s1, 0, none⟩)), (2, .pointer (some ⟨s2, 0, none⟩)), (45, .bool false)] 203 [] (W) a w) (show SR _ _ _ _ a W from h0) ⟨?_, ?_, ?_, ?_, ?_, ?_, ?_, ?_, ?_, ?_, ?_, ?_, ?_, ?_, trivial⟩ ?_
  · intro a w hI
    have hI : SR _ _ _ _ a w := hI
    have e4 := hI.g 4 rfl
    have hw : w = W := hI.wp
    subst hw
    go_simp
    exact hI.put (d := 32) (by decide) (by simp)
  · intro a w hI
    have hI : SR _ _ _ _ a w := hI
    have e32 := hI.g 32 rfl
    have hw : w = W := hI.wp
    subst hw
    go_simp
    exact hI.put (d := 33) (by decide) (by simp)
  · intro a w hI
    have hI : SR _ _ _ _ a w := hI
    have e33 := hI.g 33 rfl
    have hw : w = W := hI.wp
    subst hw
    go_simp
    exact hI.put (d := 34) (by decide) (by simp)
  · intro a w hI
    have hI : SR _ _ _ _ a w := hI
    have e3 := hI.g 3 rfl
    have e34 := hI.g 34 rfl
    have f34 := slot_bool e34
    have hw : w = W := hI.wp
    subst hw
    go_simp
    exact hI.put (d := 35) (by decide) (by simp)
  · intro a w hI
    have hI : SR _ _ _ _ a w := hI
    have e35 := hI.g 35 rfl
    have e34 := hI.g 34 rfl
    have f34 := slot_bool e34
    have hw : w = W := hI.wp
    subst hw
    go_simp
    exact hI.put (d := 36) (by decide) (by simp)
  · intro a w hI
    have hI : SR _ _ _ _ a w := hI
    have e36 := hI.g 36 rfl
    have e34 := hI.g 34 rfl
    have f34 := slot_bool e34
    have hw : w = W := hI.wp
    subst hw
    go_simp
    exact hI.put (d := 37) (by decide) (by simp)
  · intro a w hI
    have hI : SR _ _ _ _ a w := hI
    have e34 := hI.g 34 rfl
    have e37 := hI.g 37 rfl
    have hw : w = W := hI.wp
    subst hw
    go_simp
    exact hI.put (d := 38) (by decide) (by simp)
  · intro a w hI
    have hI : SR _ _ _ _ a w := hI
    have e38 := hI.g 38 rfl
    have hw : w = W := hI.wp
    subst hw
    go_simp
    exact hI.put (d := 39) (by decide) (by simp)
  · intro a w hI
    have hI : SR _ _ _ _ a w := hI
    have e3 := hI.g 3 rfl
    have e39 := hI.g 39 rfl
    have f39 := slot_bool e39
    have hw : w = W := hI.wp
    subst hw
    go_simp
    exact hI.put (d := 40) (by decide) (by simp)
  · intro a w hI
    have hI : SR _ _ _ _ a w := hI
    have e40 := hI.g 40 rfl
    have e39 := hI.g 39 rfl
    have f39 := slot_bool e39
    have hw : w = W := hI.wp
    subst hw
    go_simp
    exact hI.put (d := 41) (by decide) (by simp)
  · intro a w hI
    have hI : SR _ _ _ _ a w := hI
    have e41 := hI.g 41 rfl
    have e39 := hI.g 39 rfl
    have f39 := slot_bool e39
    have hw : w = W := hI.wp
    subst hw
    go_simp
    exact hI.put (d := 42) (by decide) (by simp)
  · intro a w hI
    have hI : SR _ _ _ _ a w := hI
    have e39 := hI.g 39 rfl
    have f39 := slot_bool e39
    have hw : w = W := hI.wp
    subst hw
    go_simp
    exact hI.put (d := 43) (by decide) (by simp)
  · intro a w hI
    have hI : SR _ _ _ _ a w := hI
    have e42 := hI.g 42 rfl
    have e43 := hI.g 43 rfl
    have e39 := hI.g 39 rfl
    have f39 := slot_bool e39
    have hw : w = W := hI.wp
    subst hw
    go_simp
    exact hI.put (d := 44) (by decide) (by simp)
  · intro a w hI
    have hI : SR _ _ _ _ a w := hI
    have e39 := hI.g 39 rfl
    have e44 := hI.g 44 rfl
    have hw : w = W := hI.wp
    subst hw
    go_simp
    exact hI.put (d := 45) (by decide) (by simp)
  · intro a w hI
    have hI : SR _ _ _ _ a w := hI
    have hw : w = W := hI.wp
    subst hw
    exact hQ a hI
set_option maxRecDepth 100000 in
set_option maxHeartbeats 4000000 in
theorem kn5 (n : Nat) {G : World → Prop} (s1 s2 : Nat) (k0 : ∀ w, G w → w.cell? ⟨s1, 0, none⟩ = some (.int .u8 0)) (k1 : ∀ w, G w → w.cell? ⟨s1, 1, none⟩ = some (.int .u8 0)) (k2 : ∀ w, G w → w.cell? ⟨s2, 0, none⟩ = some (.int .u8 2)) (k3 : ∀ w, G w → w.cell? ⟨s2, 1, none⟩ = some (.int .u8 0)) (G1 : Nat → World → Prop) (hst : ∀ w, G w → G1 w.heap.size (w.alloc (.cells #[.int .u8 0, .int .u8 0, .int .u8 0, .int .u8 0, .int .u8 2, .int .u8 0, .int .u8 2, .int .u8 0, .int .u8 0, .int .u8 0, .int .u8 0, .int .u8 0] 32))) (G2 : Nat → Nat → World → Prop) (hc : ∀ m g2 w, G1 g2 w → CallsIn Fence.wide m Try.prog 14 #[.agg #[.int .i64 3, .int .i64 2, .int .i64 1, .slice (some ⟨g2, 0, none⟩) 6 6]] w fun e w' => ∃ r : Nat, e = .returned (.tuple #[.slice (some ⟨r, 0, none⟩) 6 6, .int .i64 0]) ∧ G2 g2 r w') (Q : Exit → Act → World → Prop) (a : Act) (w : World) (h0 : SG [(1, .pointer (some ⟨s1, 0, none⟩)), (2, .pointer (some ⟨s2, 0, none⟩))] 203 G a w)
    (hQ : ∀ g2 r a w, SG [(1, .pointer (some ⟨s1, 0, none⟩)), (2, .pointer (some ⟨s2, 0, none⟩)), (5, .slice (some ⟨r, 0, none⟩) 6 6), (6, .int .i64 0)] 203 (G2 g2 r) a w → Q .normal a w) : (regOf 5 C10).wpIn Fence.wide n Try.prog Q a w := by
  obtain ⟨i0, hi, hz0, hz1, hz2⟩ := info_parts info32
  simp only [regOf, C10, Try.f10, Option.getD, Nat.reduceBEq, Bool.false_eq_true, if_true, if_false]
  refine region_sq (fun k_ a w => match k_ with | 0 => SG [(1, .pointer (some ⟨s1, 0, none⟩)), (2, .pointer (some ⟨s2, 0, none⟩))] 203 G a w | 1 => SG [(1, .pointer (some ⟨s1, 0, none⟩)), (2, .pointer (some ⟨s2, 0, none⟩)), (47, .agg #[.int .u8 0, .int .u8 0])] 203 G a w | 2 => SG [(1, .pointer (some ⟨s1, 0, none⟩)), (2, .pointer (some ⟨s2, 0, none⟩)), (47, .agg #[.int .u8 0, .int .u8 0]), (48, .agg #[.int .u8 0, .int .u8 0])] 203 G a w | 3 => SG [(1, .pointer (some ⟨s1, 0, none⟩)), (2, .pointer (some ⟨s2, 0, none⟩)), (47, .agg #[.int .u8 0, .int .u8 0]), (48, .agg #[.int .u8 0, .int .u8 0]), (49, .agg #[.int .u8 2, .int .u8 0])] 203 G a w | 4 => SG [(1, .pointer (some ⟨s1, 0, none⟩)), (2, .pointer (some ⟨s2, 0, none⟩)), (47, .agg #[.int .u8 0, .int .u8 0]), (48, .agg #[.int .u8 0, .int .u8 0]), (49, .agg #[.int .u8 2, .int .u8 0]), (50, .agg #[.int .u8 2, .int .u8 0])] 203 G a w | 5 => SG [(1, .pointer (some ⟨s1, 0, none⟩)), (2, .pointer (some ⟨s2, 0, none⟩)), (47, .agg #[.int .u8 0, .int .u8 0]), (48, .agg #[.int .u8 0, .int .u8 0]), (49, .agg #[.int .u8 2, .int .u8 0]), (50, .agg #[.int .u8 2, .int .u8 0]), (51, .agg #[.int .u8 0, .int .u8 0])] 203 G a w | 6 => SG [(1, .pointer (some ⟨s1, 0, none⟩)), (2, .pointer (some ⟨s2, 0, none⟩)), (47, .agg #[.int .u8 0, .int .u8 0]), (48, .agg #[.int .u8 0, .int .u8 0]), (49, .agg #[.int .u8 2, .int .u8 0]), (50, .agg #[.int .u8 2, .int .u8 0]), (51, .agg #[.int .u8 0, .int .u8 0]), (52, .agg #[.int .u8 0, .int .u8 0])] 203 G a w | 7 => ∃ g2, SG [(1, .pointer (some ⟨s1, 0, none⟩)), (2, .pointer (some ⟨s2, 0, none⟩)), (53, .slice (some ⟨g2, 0, none⟩) 6 6)] 203 (G1 g2) a w | 8 => ∃ g2, SG [(1, .pointer (some ⟨s1, 0, none⟩)), (2, .pointer (some ⟨s2, 0, none⟩)), (54, .agg #[.int .i64 3, .int .i64 2, .int .i64 1, .slice (some ⟨g2, 0, none⟩) 6 6])] 203 (G1 g2) a w | 9 => ∃ g2 r, SG [(1, .pointer (some ⟨s1, 0, none⟩)), (2, .pointer (some ⟨s2, 0, none⟩)), (55, .tuple #[.slice (some ⟨r, 0, none⟩) 6 6, .int .i64 0])] 203 (G2 g2 r) a w | 10 => ∃ g2 r, SG [(1, .pointer (some ⟨s1, 0, none⟩)), (2, .pointer (some ⟨s2, 0, none⟩)), (46, .tuple #[.slice (some ⟨r, 0, none⟩) 6 6, .int .i64 0])] 203 (G2 g2 r) a w | 11 => ∃ g2 r, SG [(1, .pointer (some ⟨s1, 0, none⟩)), (2, .pointer (some ⟨s2, 0, none⟩)), (46, .tuple #[.slice (some ⟨r, 0, none⟩) 6 6, .int .i64 0]), (56, .slice (some ⟨r, 0, none⟩) 6 6)] 203 (G2 g2 r) a w | 12 => ∃ g2 r, SG [(1, .pointer (some ⟨s1, 0, none⟩)), (2, .pointer (some ⟨s2, 0, none⟩)), (56, .slice (some ⟨r, 0, none⟩) 6 6), (57, .int .i64 0)] 203 (G2 g2 r) a w | 13 => ∃ g2 r, SG [(1, .pointer (some ⟨s1, 0, none⟩)), (2, .pointer (some ⟨s2, 0, none⟩)), (57, .int .i64 0), (5, .slice (some ⟨r, 0, none⟩) 6 6)] 203 (G2 g2 r) a w | _ => ∃ g2 r, SG [(1, .pointer (some ⟨s1, 0, none⟩)), (2, .pointer (some ⟨s2, 0, none⟩)), (5, .slice (some ⟨r, 0, none⟩) 6 6), (6, .int .i64 0)] 203 (G2 g2 r) a w) (show SG _ _ G a w from h0) ⟨?_, ?_, ?_, ?_, ?_, ?_, ?_, ?_, ?_, ?_, ?_, ?_, ?_, ?_, trivial⟩ ?_
  · intro a w hI
    have hI : SG _ _ G a w := hI
    have e1 := hI.g 1 rfl
    have cc0 := k0 w hI.wp
    have cc1 := k1 w hI.wp
    go_simp
    exact hI.put (d := 47) (by decide) (by simp) hI.wp
  · intro a w hI
    have hI : SG _ _ G a w := hI
    have e1 := hI.g 1 rfl
    have cc0 := k0 w hI.wp
    have cc1 := k1 w hI.wp
    go_simp
    exact hI.put (d := 48) (by decide) (by simp) hI.wp
  · intro a w hI
    have hI : SG _ _ G a w := hI
    have e2 := hI.g 2 rfl
    have cc0 := k2 w hI.wp
    have cc1 := k3 w hI.wp
    go_simp
    exact hI.put (d := 49) (by decide) (by simp) hI.wp
  · intro a w hI
    have hI : SG _ _ G a w := hI
    have e2 := hI.g 2 rfl
    have cc0 := k2 w hI.wp
    have cc1 := k3 w hI.wp
    go_simp
    exact hI.put (d := 50) (by decide) (by simp) hI.wp
  · intro a w hI
    have hI : SG _ _ G a w := hI
    have e1 := hI.g 1 rfl
    have cc0 := k0 w hI.wp
    have cc1 := k1 w hI.wp
    go_simp
    exact hI.put (d := 51) (by decide) (by simp) hI.wp
  · intro a w hI
    have hI : SG _ _ G a w := hI
    have e1 := hI.g 1 rfl
    have cc0 := k0 w hI.wp
    have cc1 := k1 w hI.wp
    go_simp
    exact hI.put (d := 52) (by decide) (by simp) hI.wp
  · intro a w hI
    have hI : SG _ _ G a w := hI
    have e47 := hI.g 47 rfl
    have e48 := hI.g 48 rfl
    have e49 := hI.g 49 rfl
    have e50 := hI.g 50 rfl
    have e51 := hI.g 51 rfl
    have e52 := hI.g 52 rfl
    go_simp
    exact ⟨w.heap.size, hI.put (d := 53) (by decide) (by simp) (hst w hI.wp)⟩
  · rintro a w ⟨g2, hI⟩
    have e53 := hI.g 53 rfl
    go_simp
    exact ⟨g2, hI.put (d := 54) (by decide) (by simp) hI.wp⟩
  · rintro a w ⟨g2, hI⟩
    have e54 := hI.g 54 rfl
    go_simp
    refine ⟨trivial, fun h => (by cases h), (hc (n - 1) g2 w hI.wp).mono ?_⟩
    rintro e w' ⟨r, rfl, hg2⟩
    exact ⟨g2, r, hI.put (d := 55) (by decide) (by simp) hg2⟩
  · rintro a w ⟨g2, r, hI⟩
    have e55 := hI.g 55 rfl
    go_simp
    exact ⟨g2, r, hI.put (d := 46) (by decide) (by simp) hI.wp⟩
  · rintro a w ⟨g2, r, hI⟩
    have e46 := hI.g 46 rfl
    go_simp
    exact ⟨g2, r, hI.put (d := 56) (by decide) (by simp) hI.wp⟩
  · rintro a w ⟨g2, r, hI⟩
    have e46 := hI.g 46 rfl
    go_simp
    exact ⟨g2, r, hI.put (d := 57) (by decide) (by simp) hI.wp⟩
  · rintro a w ⟨g2, r, hI⟩
    have e56 := hI.g 56 rfl
    go_simp
    exact ⟨g2, r, hI.put (d := 5) (by decide) (by simp) hI.wp⟩
  · rintro a w ⟨g2, r, hI⟩
    have e57 := hI.g 57 rfl
    go_simp
    exact ⟨g2, r, hI.put (d := 6) (by decide) (by simp) hI.wp⟩
  · rintro a w ⟨g2, r, hI⟩
    exact hQ g2 r a w hI
set_option maxRecDepth 100000 in
set_option maxHeartbeats 4000000 in
theorem kn6 (n : Nat) (W : World) (s1 s2 r : Nat) (l0 : W.cell? ⟨r, 0, none⟩ = some (.int .u8 14)) (l1 : W.cell? ⟨r, 1, none⟩ = some (.int .u8 0)) (l2 : W.cell? ⟨r, 2, none⟩ = some (.int .u8 15)) (l3 : W.cell? ⟨r, 3, none⟩ = some (.int .u8 0)) (l4 : W.cell? ⟨r, 4, none⟩ = some (.int .u8 0)) (l5 : W.cell? ⟨r, 5, none⟩ = some (.int .u8 0)) (l6 : W.cell? ⟨r, 6, none⟩ = some (.int .u8 0)) (l7 : W.cell? ⟨r, 7, none⟩ = some (.int .u8 0)) (Q : Exit → Act → World → Prop) (a : Act) (h0 : SR [(1, .pointer (some ⟨s1, 0, none⟩)), (2, .pointer (some ⟨s2, 0, none⟩)), (5, .slice (some ⟨r, 0, none⟩) 6 6), (6, .int .i64 0)] 203 [] W a W)
    (hQ : ∀ a, SR [(1, .pointer (some ⟨s1, 0, none⟩)), (2, .pointer (some ⟨s2, 0, none⟩)), (92, .bool false)] 203 [] (W) a (W) → Q .normal a (W)) : (regOf 6 C10).wpIn Fence.wide n Try.prog Q a W := by
  simp only [regOf, C10, Try.f10, Option.getD, Nat.reduceBEq, Bool.false_eq_true, if_true, if_false]
  refine region_sq (fun k_ a w => match k_ with | 0 => SR [(1, .pointer (some ⟨s1, 0, none⟩)), (2, .pointer (some ⟨s2, 0, none⟩)), (5, .slice (some ⟨r, 0, none⟩) 6 6), (6, .int .i64 0)] 203 [] (W) a w | 1 => SR [(1, .pointer (some ⟨s1, 0, none⟩)), (2, .pointer (some ⟨s2, 0, none⟩)), (5, .slice (some ⟨r, 0, none⟩) 6 6), (58, .int .i64 0)] 203 [] (W) a w | 2 => SR [(1, .pointer (some ⟨s1, 0, none⟩)), (2, .pointer (some ⟨s2, 0, none⟩)), (5, .slice (some ⟨r, 0, none⟩) 6 6), (59, .bool false)] 203 [] (W) a w | 3 => SR [(1, .pointer (some ⟨s1, 0, none⟩)), (2, .pointer (some ⟨s2, 0, none⟩)), (5, .slice (some ⟨r, 0, none⟩) 6 6), (60, .bool false)] 203 [] (W) a w | 4 => SR [(1, .pointer (some ⟨s1, 0, none⟩)), (2, .pointer (some ⟨s2, 0, none⟩)), (5, .slice (some ⟨r, 0, none⟩) 6 6), (60, .bool false), (61, .slice (some ⟨r, 0, none⟩) 6 6)] 203 [] (W) a w | 5 => SR [(1, .pointer (some ⟨s1, 0, none⟩)), (2, .pointer (some ⟨s2, 0, none⟩)), (5, .slice (some ⟨r, 0, none⟩) 6 6), (60, .bool false), (62, .int .i64 6)] 203 [] (W) a w | 6 => SR [(1, .pointer (some ⟨s1, 0, none⟩)), (2, .pointer (some ⟨s2, 0, none⟩)), (5, .slice (some ⟨r, 0, none⟩) 6 6), (60, .bool false), (63, .bool false)] 203 [] (W) a w | 7 => SR [(1, .pointer (some ⟨s1, 0, none⟩)), (2, .pointer (some ⟨s2, 0, none⟩)), (5, .slice (some ⟨r, 0, none⟩) 6 6), (64, .bool false)] 203 [] (W) a w | 8 => SR [(1, .pointer (some ⟨s1, 0, none⟩)), (2, .pointer (some ⟨s2, 0, none⟩)), (5, .slice (some ⟨r, 0, none⟩) 6 6), (65, .bool false)] 203 [] (W) a w | 9 => SR [(1, .pointer (some ⟨s1, 0, none⟩)), (2, .pointer (some ⟨s2, 0, none⟩)), (5, .slice (some ⟨r, 0, none⟩) 6 6), (65, .bool false), (66, .slice (some ⟨r, 0, none⟩) 6 6)] 203 [] (W) a w | 10 => SR [(1, .pointer (some ⟨s1, 0, none⟩)), (2, .pointer (some ⟨s2, 0, none⟩)), (5, .slice (some ⟨r, 0, none⟩) 6 6), (65, .bool false), (67, .pointer (some ⟨r, 0, none⟩))] 203 [] (W) a w | 11 => SR [(1, .pointer (some ⟨s1, 0, none⟩)), (2, .pointer (some ⟨s2, 0, none⟩)), (5, .slice (some ⟨r, 0, none⟩) 6 6), (65, .bool false), (68, .agg #[.int .u8 14, .int .u8 0])] 203 [] (W) a w | 12 => SR [(1, .pointer (some ⟨s1, 0, none⟩)), (2, .pointer (some ⟨s2, 0, none⟩)), (5, .slice (some ⟨r, 0, none⟩) 6 6), (65, .bool false), (68, .agg #[.int .u8 14, .int .u8 0]), (69, .agg #[.int .u8 14, .int .u8 0])] 203 [] (W) a w | 13 => SR [(1, .pointer (some ⟨s1, 0, none⟩)), (2, .pointer (some ⟨s2, 0, none⟩)), (5, .slice (some ⟨r, 0, none⟩) 6 6), (65, .bool false), (70, .bool false)] 203 [] (W) a w | 14 => SR [(1, .pointer (some ⟨s1, 0, none⟩)), (2, .pointer (some ⟨s2, 0, none⟩)), (5, .slice (some ⟨r, 0, none⟩) 6 6), (71, .bool false)] 203 [] (W) a w | 15 => SR [(1, .pointer (some ⟨s1, 0, none⟩)), (2, .pointer (some ⟨s2, 0, none⟩)), (5, .slice (some ⟨r, 0, none⟩) 6 6), (72, .bool false)] 203 [] (W) a w | 16 => SR [(1, .pointer (some ⟨s1, 0, none⟩)), (2, .pointer (some ⟨s2, 0, none⟩)), (5, .slice (some ⟨r, 0, none⟩) 6 6), (72, .bool false), (73, .slice (some ⟨r, 0, none⟩) 6 6)] 203 [] (W) a w | 17 => SR [(1, .pointer (some ⟨s1, 0, none⟩)), (2, .pointer (some ⟨s2, 0, none⟩)), (5, .slice (some ⟨r, 0, none⟩) 6 6), (72, .bool false), (74, .pointer (some ⟨r, 2, none⟩))] 203 [] (W) a w | 18 => SR [(1, .pointer (some ⟨s1, 0, none⟩)), (2, .pointer (some ⟨s2, 0, none⟩)), (5, .slice (some ⟨r, 0, none⟩) 6 6), (72, .bool false), (75, .agg #[.int .u8 15, .int .u8 0])] 203 [] (W) a w | 19 => SR [(1, .pointer (some ⟨s1, 0, none⟩)), (2, .pointer (some ⟨s2, 0, none⟩)), (5, .slice (some ⟨r, 0, none⟩) 6 6), (72, .bool false), (75, .agg #[.int .u8 15, .int .u8 0]), (76, .agg #[.int .u8 15, .int .u8 0])] 203 [] (W) a w | 20 => SR [(1, .pointer (some ⟨s1, 0, none⟩)), (2, .pointer (some ⟨s2, 0, none⟩)), (5, .slice (some ⟨r, 0, none⟩) 6 6), (72, .bool false), (77, .bool false)] 203 [] (W) a w | 21 => SR [(1, .pointer (some ⟨s1, 0, none⟩)), (2, .pointer (some ⟨s2, 0, none⟩)), (5, .slice (some ⟨r, 0, none⟩) 6 6), (78, .bool false)] 203 [] (W) a w | 22 => SR [(1, .pointer (some ⟨s1, 0, none⟩)), (2, .pointer (some ⟨s2, 0, none⟩)), (5, .slice (some ⟨r, 0, none⟩) 6 6), (79, .bool false)] 203 [] (W) a w | 23 => SR [(1, .pointer (some ⟨s1, 0, none⟩)), (2, .pointer (some ⟨s2, 0, none⟩)), (5, .slice (some ⟨r, 0, none⟩) 6 6), (79, .bool false), (80, .slice (some ⟨r, 0, none⟩) 6 6)] 203 [] (W) a w | 24 => SR [(1, .pointer (some ⟨s1, 0, none⟩)), (2, .pointer (some ⟨s2, 0, none⟩)), (5, .slice (some ⟨r, 0, none⟩) 6 6), (79, .bool false), (81, .pointer (some ⟨r, 4, none⟩))] 203 [] (W) a w | 25 => SR [(1, .pointer (some ⟨s1, 0, none⟩)), (2, .pointer (some ⟨s2, 0, none⟩)), (5, .slice (some ⟨r, 0, none⟩) 6 6), (79, .bool false), (82, .agg #[.int .u8 0, .int .u8 0])] 203 [] (W) a w | 26 => SR [(1, .pointer (some ⟨s1, 0, none⟩)), (2, .pointer (some ⟨s2, 0, none⟩)), (5, .slice (some ⟨r, 0, none⟩) 6 6), (79, .bool false), (82, .agg #[.int .u8 0, .int .u8 0]), (83, .agg #[.int .u8 0, .int .u8 0])] 203 [] (W) a w | 27 => SR [(1, .pointer (some ⟨s1, 0, none⟩)), (2, .pointer (some ⟨s2, 0, none⟩)), (5, .slice (some ⟨r, 0, none⟩) 6 6), (79, .bool false), (84, .bool false)] 203 [] (W) a w | 28 => SR [(1, .pointer (some ⟨s1, 0, none⟩)), (2, .pointer (some ⟨s2, 0, none⟩)), (5, .slice (some ⟨r, 0, none⟩) 6 6), (85, .bool false)] 203 [] (W) a w | 29 => SR [(1, .pointer (some ⟨s1, 0, none⟩)), (2, .pointer (some ⟨s2, 0, none⟩)), (5, .slice (some ⟨r, 0, none⟩) 6 6), (86, .bool false)] 203 [] (W) a w | 30 => SR [(1, .pointer (some ⟨s1, 0, none⟩)), (2, .pointer (some ⟨s2, 0, none⟩)), (86, .bool false), (87, .slice (some ⟨r, 0, none⟩) 6 6)] 203 [] (W) a w | 31 => SR [(1, .pointer (some ⟨s1, 0, none⟩)), (2, .pointer (some ⟨s2, 0, none⟩)), (86, .bool false), (88, .pointer (some ⟨r, 6, none⟩))] 203 [] (W) a w | 32 => SR [(1, .pointer (some ⟨s1, 0, none⟩)), (2, .pointer (some ⟨s2, 0, none⟩)), (86, .bool false), (89, .agg #[.int .u8 0, .int .u8 0])] 203 [] (W) a w | 33 => SR [(1, .pointer (some ⟨s1, 0, none⟩)), (2, .pointer (some ⟨s2, 0, none⟩)), (86, .bool false), (89, .agg #[.int .u8 0, .int .u8 0]), (90, .agg #[.int .u8 0, .int .u8 0])] 203 [] (W) a w | 34 => SR [(1, .pointer (some ⟨s1, 0, none⟩)), (2, .pointer (some ⟨s2, 0, none⟩)), (86, .bool false), (91, .bool false)] 203 [] (W) a w | _ => SR [(1, .pointer (some ⟨s1, 0, none⟩)), (2, .pointer (some ⟨s2, 0, none⟩)), (92, .bool false)] 203 [] (W) a w) (show SR _ _ _ _ a W from h0) ⟨?_, ?_, ?_, ?_, ?_, ?_, ?_, ?_, ?_, ?_, ?_, ?_, ?_, ?_, ?_, ?_, ?_, ?_, ?_, ?_, ?_, ?_, ?_, ?_, ?_, ?_, ?_, ?_, ?_, ?_, ?_, ?_, ?_, ?_, ?_, trivial⟩ ?_
  · intro a w hI
    have hI : SR _ _ _ _ a w := hI
    have e6 := hI.g 6 rfl
    have hw : w = W := hI.wp
    subst hw
    go_simp
    exact hI.put (d := 58) (by decide) (by simp)
  · intro a w hI
    have hI : SR _ _ _ _ a w := hI
    have e58 := hI.g 58 rfl
    have hw : w = W := hI.wp
    subst hw
    go_simp
    exact hI.put (d := 59) (by decide) (by simp)
  · intro a w hI
    have hI : SR _ _ _ _ a w := hI
    have e59 := hI.g 59 rfl
    have hw : w = W := hI.wp
    subst hw
    go_simp
    exact hI.put (d := 60) (by decide) (by simp)
  · intro a w hI
    have hI : SR _ _ _ _ a w := hI
    have e5 := hI.g 5 rfl
    have e60 := hI.g 60 rfl
    have f60 := slot_bool e60
    have hw : w = W := hI.wp
    subst hw
    go_simp
    exact hI.put (d := 61) (by decide) (by simp)
  · intro a w hI
    have hI : SR _ _ _ _ a w := hI
    have e61 := hI.g 61 rfl
    have e60 := hI.g 60 rfl
    have f60 := slot_bool e60
    have hw : w = W := hI.wp
    subst hw
    go_simp
    exact hI.put (d := 62) (by decide) (by simp)
  · intro a w hI
    have hI : SR _ _ _ _ a w := hI
    have e62 := hI.g 62 rfl
    have e60 := hI.g 60 rfl
    have f60 := slot_bool e60
    have hw : w = W := hI.wp
    subst hw
    go_simp
    exact hI.put (d := 63) (by decide) (by simp)
  · intro a w hI
    have hI : SR _ _ _ _ a w := hI
    have e60 := hI.g 60 rfl
    have e63 := hI.g 63 rfl
    have hw : w = W := hI.wp
    subst hw
    go_simp
    exact hI.put (d := 64) (by decide) (by simp)
  · intro a w hI
    have hI : SR _ _ _ _ a w := hI
    have e64 := hI.g 64 rfl
    have hw : w = W := hI.wp
    subst hw
    go_simp
    exact hI.put (d := 65) (by decide) (by simp)
  · intro a w hI
    have hI : SR _ _ _ _ a w := hI
    have e5 := hI.g 5 rfl
    have e65 := hI.g 65 rfl
    have f65 := slot_bool e65
    have hw : w = W := hI.wp
    subst hw
    go_simp
    exact hI.put (d := 66) (by decide) (by simp)
  · intro a w hI
    have hI : SR _ _ _ _ a w := hI
    have e66 := hI.g 66 rfl
    have e65 := hI.g 65 rfl
    have f65 := slot_bool e65
    have hw : w = W := hI.wp
    subst hw
    go_simp
    exact hI.put (d := 67) (by decide) (by simp)
  · intro a w hI
    have hI : SR _ _ _ _ a w := hI
    have e67 := hI.g 67 rfl
    have e65 := hI.g 65 rfl
    have f65 := slot_bool e65
    have hw : w = W := hI.wp
    subst hw
    go_simp
    exact hI.put (d := 68) (by decide) (by simp)
  · intro a w hI
    have hI : SR _ _ _ _ a w := hI
    have e65 := hI.g 65 rfl
    have f65 := slot_bool e65
    have hw : w = W := hI.wp
    subst hw
    go_simp
    exact hI.put (d := 69) (by decide) (by simp)
  · intro a w hI
    have hI : SR _ _ _ _ a w := hI
    have e68 := hI.g 68 rfl
    have e69 := hI.g 69 rfl
    have e65 := hI.g 65 rfl
    have f65 := slot_bool e65
    have hw : w = W := hI.wp
    subst hw
    go_simp
    exact hI.put (d := 70) (by decide) (by simp)
  · intro a w hI
    have hI : SR _ _ _ _ a w := hI
    have e65 := hI.g 65 rfl
    have e70 := hI.g 70 rfl
    have hw : w = W := hI.wp
    subst hw
    go_simp
    exact hI.put (d := 71) (by decide) (by simp)
  · intro a w hI
    have hI : SR _ _ _ _ a w := hI
    have e71 := hI.g 71 rfl
    have hw : w = W := hI.wp
    subst hw
    go_simp
    exact hI.put (d := 72) (by decide) (by simp)
  · intro a w hI
    have hI : SR _ _ _ _ a w := hI
    have e5 := hI.g 5 rfl
    have e72 := hI.g 72 rfl
    have f72 := slot_bool e72
    have hw : w = W := hI.wp
    subst hw
    go_simp
    exact hI.put (d := 73) (by decide) (by simp)
  · intro a w hI
    have hI : SR _ _ _ _ a w := hI
    have e73 := hI.g 73 rfl
    have e72 := hI.g 72 rfl
    have f72 := slot_bool e72
    have hw : w = W := hI.wp
    subst hw
    go_simp
    exact hI.put (d := 74) (by decide) (by simp)
  · intro a w hI
    have hI : SR _ _ _ _ a w := hI
    have e74 := hI.g 74 rfl
    have e72 := hI.g 72 rfl
    have f72 := slot_bool e72
    have hw : w = W := hI.wp
    subst hw
    go_simp
    exact hI.put (d := 75) (by decide) (by simp)
  · intro a w hI
    have hI : SR _ _ _ _ a w := hI
    have e72 := hI.g 72 rfl
    have f72 := slot_bool e72
    have hw : w = W := hI.wp
    subst hw
    go_simp
    exact hI.put (d := 76) (by decide) (by simp)
  · intro a w hI
    have hI : SR _ _ _ _ a w := hI
    have e75 := hI.g 75 rfl
    have e76 := hI.g 76 rfl
    have e72 := hI.g 72 rfl
    have f72 := slot_bool e72
    have hw : w = W := hI.wp
    subst hw
    go_simp
    exact hI.put (d := 77) (by decide) (by simp)
  · intro a w hI
    have hI : SR _ _ _ _ a w := hI
    have e72 := hI.g 72 rfl
    have e77 := hI.g 77 rfl
    have hw : w = W := hI.wp
    subst hw
    go_simp
    exact hI.put (d := 78) (by decide) (by simp)
  · intro a w hI
    have hI : SR _ _ _ _ a w := hI
    have e78 := hI.g 78 rfl
    have hw : w = W := hI.wp
    subst hw
    go_simp
    exact hI.put (d := 79) (by decide) (by simp)
  · intro a w hI
    have hI : SR _ _ _ _ a w := hI
    have e5 := hI.g 5 rfl
    have e79 := hI.g 79 rfl
    have f79 := slot_bool e79
    have hw : w = W := hI.wp
    subst hw
    go_simp
    exact hI.put (d := 80) (by decide) (by simp)
  · intro a w hI
    have hI : SR _ _ _ _ a w := hI
    have e80 := hI.g 80 rfl
    have e79 := hI.g 79 rfl
    have f79 := slot_bool e79
    have hw : w = W := hI.wp
    subst hw
    go_simp
    exact hI.put (d := 81) (by decide) (by simp)
  · intro a w hI
    have hI : SR _ _ _ _ a w := hI
    have e81 := hI.g 81 rfl
    have e79 := hI.g 79 rfl
    have f79 := slot_bool e79
    have hw : w = W := hI.wp
    subst hw
    go_simp
    exact hI.put (d := 82) (by decide) (by simp)
  · intro a w hI
    have hI : SR _ _ _ _ a w := hI
    have e79 := hI.g 79 rfl
    have f79 := slot_bool e79
    have hw : w = W := hI.wp
    subst hw
    go_simp
    exact hI.put (d := 83) (by decide) (by simp)
  · intro a w hI
    have hI : SR _ _ _ _ a w := hI
    have e82 := hI.g 82 rfl
    have e83 := hI.g 83 rfl
    have e79 := hI.g 79 rfl
    have f79 := slot_bool e79
    have hw : w = W := hI.wp
    subst hw
    go_simp
    exact hI.put (d := 84) (by decide) (by simp)
  · intro a w hI
    have hI : SR _ _ _ _ a w := hI
    have e79 := hI.g 79 rfl
    have e84 := hI.g 84 rfl
    have hw : w = W := hI.wp
    subst hw
    go_simp
    exact hI.put (d := 85) (by decide) (by simp)
  · intro a w hI
    have hI : SR _ _ _ _ a w := hI
    have e85 := hI.g 85 rfl
    have hw : w = W := hI.wp
    subst hw
    go_simp
    exact hI.put (d := 86) (by decide) (by simp)
  · intro a w hI
    have hI : SR _ _ _ _ a w := hI
    have e5 := hI.g 5 rfl
    have e86 := hI.g 86 rfl
    have f86 := slot_bool e86
    have hw : w = W := hI.wp
    subst hw
    go_simp
    exact hI.put (d := 87) (by decide) (by simp)
  · intro a w hI
    have hI : SR _ _ _ _ a w := hI
    have e87 := hI.g 87 rfl
    have e86 := hI.g 86 rfl
    have f86 := slot_bool e86
    have hw : w = W := hI.wp
    subst hw
    go_simp
    exact hI.put (d := 88) (by decide) (by simp)
  · intro a w hI
    have hI : SR _ _ _ _ a w := hI
    have e88 := hI.g 88 rfl
    have e86 := hI.g 86 rfl
    have f86 := slot_bool e86
    have hw : w = W := hI.wp
    subst hw
    go_simp
    exact hI.put (d := 89) (by decide) (by simp)
  · intro a w hI
    have hI : SR _ _ _ _ a w := hI
    have e86 := hI.g 86 rfl
    have f86 := slot_bool e86
    have hw : w = W := hI.wp
    subst hw
    go_simp
    exact hI.put (d := 90) (by decide) (by simp)
  · intro a w hI
    have hI : SR _ _ _ _ a w := hI
    have e89 := hI.g 89 rfl
    have e90 := hI.g 90 rfl
    have e86 := hI.g 86 rfl
    have f86 := slot_bool e86
    have hw : w = W := hI.wp
    subst hw
    go_simp
    exact hI.put (d := 91) (by decide) (by simp)
  · intro a w hI
    have hI : SR _ _ _ _ a w := hI
    have e86 := hI.g 86 rfl
    have e91 := hI.g 91 rfl
    have hw : w = W := hI.wp
    subst hw
    go_simp
    exact hI.put (d := 92) (by decide) (by simp)
  · intro a w hI
    have hI : SR _ _ _ _ a w := hI
    have hw : w = W := hI.wp
    subst hw
    exact hQ a hI
set_option maxRecDepth 100000 in
set_option maxHeartbeats 4000000 in
theorem kn8 (n : Nat) {G : World → Prop} (s1 s2 : Nat) (k0 : ∀ w, G w → w.cell? ⟨s1, 0, none⟩ = some (.int .u8 0)) (k1 : ∀ w, G w → w.cell? ⟨s1, 1, none⟩ = some (.int .u8 0)) (k2 : ∀ w, G w → w.cell? ⟨s2, 0, none⟩ = some (.int .u8 2)) (k3 : ∀ w, G w → w.cell? ⟨s2, 1, none⟩ = some (.int .u8 0)) (G1 : Nat → World → Prop) (hst : ∀ w, G w → G1 w.heap.size (w.alloc (.cells #[.int .u8 11, .int .u8 3, .int .u8 0, .int .u8 0, .int .u8 0, .int .u8 0, .int .u8 0, .int .u8 0, .int .u8 2, .int .u8 0, .int .u8 2, .int .u8 0, .int .u8 2, .int .u8 0, .int .u8 2, .int .u8 0] 32))) (G2 : Nat → Nat → World → Prop) (hc : ∀ m g2 w, G1 g2 w → CallsIn Fence.wide m Try.prog 14 #[.agg #[.int .i64 4, .int .i64 2, .int .i64 1, .slice (some ⟨g2, 0, none⟩) 8 8]] w fun e w' => ∃ r : Nat, e = .returned (.tuple #[.slice (some ⟨r, 0, none⟩) 8 8, .int .i64 0]) ∧ G2 g2 r w') (Q : Exit → Act → World → Prop) (a : Act) (w : World) (h0 : SG [(1, .pointer (some ⟨s1, 0, none⟩)), (2, .pointer (some ⟨s2, 0, none⟩))] 203 G a w)
    (hQ : ∀ g2 r a w, SG [(7, .slice (some ⟨r, 0, none⟩) 8 8), (8, .int .i64 0)] 203 (G2 g2 r) a w → Q .normal a w) : (regOf 8 C10).wpIn Fence.wide n Try.prog Q a w := by
  obtain ⟨i0, hi, hz0, hz1, hz2⟩ := info_parts info32
  simp only [regOf, C10, Try.f10, Option.getD, Nat.reduceBEq, Bool.false_eq_true, if_true, if_false]
  refine region_sq (fun k_ a w => match k_ with | 0 => SG [(1, .pointer (some ⟨s1, 0, none⟩)), (2, .pointer (some ⟨s2, 0, none⟩))] 203 G a w | 1 => SG [(1, .pointer (some ⟨s1, 0, none⟩)), (2, .pointer (some ⟨s2, 0, none⟩)), (94, .agg #[.int .u8 11, .int .u8 3])] 203 G a w | 2 => SG [(1, .pointer (some ⟨s1, 0, none⟩)), (2, .pointer (some ⟨s2, 0, none⟩)), (94, .agg #[.int .u8 11, .int .u8 3]), (95, .agg #[.int .u8 0, .int .u8 0])] 203 G a w | 3 => SG [(1, .pointer (some ⟨s1, 0, none⟩)), (2, .pointer (some ⟨s2, 0, none⟩)), (94, .agg #[.int .u8 11, .int .u8 3]), (95, .agg #[.int .u8 0, .int .u8 0]), (96, .agg #[.int .u8 0, .int .u8 0])] 203 G a w | 4 => SG [(2, .pointer (some ⟨s2, 0, none⟩)), (94, .agg #[.int .u8 11, .int .u8 3]), (95, .agg #[.int .u8 0, .int .u8 0]), (96, .agg #[.int .u8 0, .int .u8 0]), (97, .agg #[.int .u8 0, .int .u8 0])] 203 G a w | 5 => SG [(2, .pointer (some ⟨s2, 0, none⟩)), (94, .agg #[.int .u8 11, .int .u8 3]), (95, .agg #[.int .u8 0, .int .u8 0]), (96, .agg #[.int .u8 0, .int .u8 0]), (97, .agg #[.int .u8 0, .int .u8 0]), (98, .agg #[.int .u8 2, .int .u8 0])] 203 G a w | 6 => SG [(2, .pointer (some ⟨s2, 0, none⟩)), (94, .agg #[.int .u8 11, .int .u8 3]), (95, .agg #[.int .u8 0, .int .u8 0]), (96, .agg #[.int .u8 0, .int .u8 0]), (97, .agg #[.int .u8 0, .int .u8 0]), (98, .agg #[.int .u8 2, .int .u8 0]), (99, .agg #[.int .u8 2, .int .u8 0])] 203 G a w | 7 => SG [(2, .pointer (some ⟨s2, 0, none⟩)), (94, .agg #[.int .u8 11, .int .u8 3]), (95, .agg #[.int .u8 0, .int .u8 0]), (96, .agg #[.int .u8 0, .int .u8 0]), (97, .agg #[.int .u8 0, .int .u8 0]), (98, .agg #[.int .u8 2, .int .u8 0]), (99, .agg #[.int .u8 2, .int .u8 0]), (100, .agg #[.int .u8 2, .int .u8 0])] 203 G a w | 8 => SG [(94, .agg #[.int .u8 11, .int .u8 3]), (95, .agg #[.int .u8 0, .int .u8 0]), (96, .agg #[.int .u8 0, .int .u8 0]), (97, .agg #[.int .u8 0, .int .u8 0]), (98, .agg #[.int .u8 2, .int .u8 0]), (99, .agg #[.int .u8 2, .int .u8 0]), (100, .agg #[.int .u8 2, .int .u8 0]), (101, .agg #[.int .u8 2, .int .u8 0])] 203 G a w | 9 => ∃ g2, SG [(102, .slice (some ⟨g2, 0, none⟩) 8 8)] 203 (G1 g2) a w | 10 => ∃ g2, SG [(103, .agg #[.int .i64 4, .int .i64 2, .int .i64 1, .slice (some ⟨g2, 0, none⟩) 8 8])] 203 (G1 g2) a w | 11 => ∃ g2 r, SG [(104, .tuple #[.slice (some ⟨r, 0, none⟩) 8 8, .int .i64 0])] 203 (G2 g2 r) a w | 12 => ∃ g2 r, SG [(93, .tuple #[.slice (some ⟨r, 0, none⟩) 8 8, .int .i64 0])] 203 (G2 g2 r) a w | 13 => ∃ g2 r, SG [(93, .tuple #[.slice (some ⟨r, 0, none⟩) 8 8, .int .i64 0]), (105, .slice (some ⟨r, 0, none⟩) 8 8)] 203 (G2 g2 r) a w | 14 => ∃ g2 r, SG [(105, .slice (some ⟨r, 0, none⟩) 8 8), (106, .int .i64 0)] 203 (G2 g2 r) a w | 15 => ∃ g2 r, SG [(106, .int .i64 0), (7, .slice (some ⟨r, 0, none⟩) 8 8)] 203 (G2 g2 r) a w | _ => ∃ g2 r, SG [(7, .slice (some ⟨r, 0, none⟩) 8 8), (8, .int .i64 0)] 203 (G2 g2 r) a w) (show SG _ _ G a w from h0) ⟨?_, ?_, ?_, ?_, ?_, ?_, ?_, ?_, ?_, ?_, ?_, ?_, ?_, ?_, ?_, ?_, trivial⟩ ?_
  · intro a w hI
    have hI : SG _ _ G a w := hI
    go_simp
    exact hI.put (d := 94) (by decide) (by simp) hI.wp
  · intro a w hI
    have hI : SG _ _ G a w := hI
    have e1 := hI.g 1 rfl
    have cc0 := k0 w hI.wp
    have cc1 := k1 w hI.wp
    go_simp
    exact hI.put (d := 95) (by decide) (by simp) hI.wp
  · intro a w hI
    have hI : SG _ _ G a w := hI
    have e1 := hI.g 1 rfl
    have cc0 := k0 w hI.wp
    have cc1 := k1 w hI.wp
    go_simp
    exact hI.put (d := 96) (by decide) (by simp) hI.wp
  · intro a w hI
    have hI : SG _ _ G a w := hI
    have e1 := hI.g 1 rfl
    have cc0 := k0 w hI.wp
    have cc1 := k1 w hI.wp
    go_simp
    exact hI.put (d := 97) (by decide) (by simp) hI.wp
  · intro a w hI
    have hI : SG _ _ G a w := hI
    have e2 := hI.g 2 rfl
    have cc0 := k2 w hI.wp
    have cc1 := k3 w hI.wp
    go_simp
    exact hI.put (d := 98) (by decide) (by simp) hI.wp
  · intro a w hI
    have hI : SG _ _ G a w := hI
    have e2 := hI.g 2 rfl
    have cc0 := k2 w hI.wp
    have cc1 := k3 w hI.wp
    go_simp
    exact hI.put (d := 99) (by decide) (by simp) hI.wp
  · intro a w hI
    have hI : SG _ _ G a w := hI
    have e2 := hI.g 2 rfl
    have cc0 := k2 w hI.wp
    have cc1 := k3 w hI.wp
    go_simp
    exact hI.put (d := 100) (by decide) (by simp) hI.wp
  · intro a w hI
    have hI : SG _ _ G a w := hI
    have e2 := hI.g 2 rfl
    have cc0 := k2 w hI.wp
    have cc1 := k3 w hI.wp
    go_simp
    exact hI.put (d := 101) (by decide) (by simp) hI.wp
  · intro a w hI
    have hI : SG _ _ G a w := hI
    have e94 := hI.g 94 rfl
    have e95 := hI.g 95 rfl
    have e96 := hI.g 96 rfl
    have e97 := hI.g 97 rfl
    have e98 := hI.g 98 rfl
    have e99 := hI.g 99 rfl
    have e100 := hI.g 100 rfl
    have e101 := hI.g 101 rfl
    go_simp
    exact ⟨w.heap.size, hI.put (d := 102) (by decide) (by simp) (hst w hI.wp)⟩
  · rintro a w ⟨g2, hI⟩
    have e102 := hI.g 102 rfl
    go_simp
    exact ⟨g2, hI.put (d := 103) (by decide) (by simp) hI.wp⟩
  · rintro a w ⟨g2, hI⟩
    have e103 := hI.g 103 rfl
    go_simp
    refine ⟨trivial, fun h => (by cases h), (hc (n - 1) g2 w hI.wp).mono ?_⟩
    rintro e w' ⟨r, rfl, hg2⟩
    exact ⟨g2, r, hI.put (d := 104) (by decide) (by simp) hg2⟩
  · rintro a w ⟨g2, r, hI⟩
    have e104 := hI.g 104 rfl
    go_simp
    exact ⟨g2, r, hI.put (d := 93) (by decide) (by simp) hI.wp⟩
  · rintro a w ⟨g2, r, hI⟩
    have e93 := hI.g 93 rfl
    go_simp
    exact ⟨g2, r, hI.put (d := 105) (by decide) (by simp) hI.wp⟩
  · rintro a w ⟨g2, r, hI⟩
    have e93 := hI.g 93 rfl
    go_simp
    exact ⟨g2, r, hI.put (d := 106) (by decide) (by simp) hI.wp⟩
  · rintro a w ⟨g2, r, hI⟩
    have e105 := hI.g 105 rfl
    go_simp
    exact ⟨g2, r, hI.put (d := 7) (by decide) (by simp) hI.wp⟩
  · rintro a w ⟨g2, r, hI⟩
    have e106 := hI.g 106 rfl
    go_simp
    exact ⟨g2, r, hI.put (d := 8) (by decide) (by simp) hI.wp⟩
  · rintro a w ⟨g2, r, hI⟩
    exact hQ g2 r a w hI
set_option maxRecDepth 100000 in
set_option maxHeartbeats 4000000 in
theorem kn9 (n : Nat) (W : World) (r : Nat) (l0 : W.cell? ⟨r, 0, none⟩ = some (.int .u8 0)) (l1 : W.cell? ⟨r, 1, none⟩ = some (.int .u8 3)) (l2 : W.cell? ⟨r, 2, none⟩ = some (.int .u8 0)) (l3 : W.cell? ⟨r, 3, none⟩ = some (.int .u8 2)) (l4 : W.cell? ⟨r, 4, none⟩ = some (.int .u8 0)) (l5 : W.cell? ⟨r, 5, none⟩ = some (.int .u8 1)) (l6 : W.cell? ⟨r, 6, none⟩ = some (.int .u8 0)) (l7 : W.cell? ⟨r, 7, none⟩ = some (.int .u8 0)) (Q : Exit → Act → World → Prop) (a : Act) (h0 : SR [(7, .slice (some ⟨r, 0, none⟩) 8 8), (8, .int .i64 0)] 203 [] W a W)
    (hQ : ∀ a, SR [(141, .bool false)] 203 [] (W) a (W) → Q .normal a (W)) : (regOf 9 C10).wpIn Fence.wide n Try.prog Q a W := by
  simp only [regOf, C10, Try.f10, Option.getD, Nat.reduceBEq, Bool.false_eq_true, if_true, if_false]
  refine region_sq (fun k_ a w => match k_ with | 0 => SR [(7, .slice (some ⟨r, 0, none⟩) 8 8), (8, .int .i64 0)] 203 [] (W) a w | 1 => SR [(7, .slice (some ⟨r, 0, none⟩) 8 8), (107, .int .i64 0)] 203 [] (W) a w | 2 => SR [(7, .slice (some ⟨r, 0, none⟩) 8 8), (108, .bool false)] 203 [] (W) a w | 3 => SR [(7, .slice (some ⟨r, 0, none⟩) 8 8), (109, .bool false)] 203 [] (W) a w | 4 => SR [(7, .slice (some ⟨r, 0, none⟩) 8 8), (109, .bool false), (110, .slice (some ⟨r, 0, none⟩) 8 8)] 203 [] (W) a w | 5 => SR [(7, .slice (some ⟨r, 0, none⟩) 8 8), (109, .bool false), (111, .int .i64 8)] 203 [] (W) a w | 6 => SR [(7, .slice (some ⟨r, 0, none⟩) 8 8), (109, .bool false), (112, .bool false)] 203 [] (W) a w | 7 => SR [(7, .slice (some ⟨r, 0, none⟩) 8 8), (113, .bool false)] 203 [] (W) a w | 8 => SR [(7, .slice (some ⟨r, 0, none⟩) 8 8), (114, .bool false)] 203 [] (W) a w | 9 => SR [(7, .slice (some ⟨r, 0, none⟩) 8 8), (114, .bool false), (115, .slice (some ⟨r, 0, none⟩) 8 8)] 203 [] (W) a w | 10 => SR [(7, .slice (some ⟨r, 0, none⟩) 8 8), (114, .bool false), (116, .pointer (some ⟨r, 0, none⟩))] 203 [] (W) a w | 11 => SR [(7, .slice (some ⟨r, 0, none⟩) 8 8), (114, .bool false), (117, .agg #[.int .u8 0, .int .u8 3])] 203 [] (W) a w | 12 => SR [(7, .slice (some ⟨r, 0, none⟩) 8 8), (114, .bool false), (117, .agg #[.int .u8 0, .int .u8 3]), (118, .agg #[.int .u8 0, .int .u8 3])] 203 [] (W) a w | 13 => SR [(7, .slice (some ⟨r, 0, none⟩) 8 8), (114, .bool false), (119, .bool false)] 203 [] (W) a w | 14 => SR [(7, .slice (some ⟨r, 0, none⟩) 8 8), (120, .bool false)] 203 [] (W) a w | 15 => SR [(7, .slice (some ⟨r, 0, none⟩) 8 8), (121, .bool false)] 203 [] (W) a w | 16 => SR [(7, .slice (some ⟨r, 0, none⟩) 8 8), (121, .bool false), (122, .slice (some ⟨r, 0, none⟩) 8 8)] 203 [] (W) a w | 17 => SR [(7, .slice (some ⟨r, 0, none⟩) 8 8), (121, .bool false), (123, .pointer (some ⟨r, 2, none⟩))] 203 [] (W) a w | 18 => SR [(7, .slice (some ⟨r, 0, none⟩) 8 8), (121, .bool false), (124, .agg #[.int .u8 0, .int .u8 2])] 203 [] (W) a w | 19 => SR [(7, .slice (some ⟨r, 0, none⟩) 8 8), (121, .bool false), (124, .agg #[.int .u8 0, .int .u8 2]), (125, .agg #[.int .u8 0, .int .u8 2])] 203 [] (W) a w | 20 => SR [(7, .slice (some ⟨r, 0, none⟩) 8 8), (121, .bool false), (126, .bool false)] 203 [] (W) a w | 21 => SR [(7, .slice (some ⟨r, 0, none⟩) 8 8), (127, .bool false)] 203 [] (W) a w | 22 => SR [(7, .slice (some ⟨r, 0, none⟩) 8 8), (128, .bool false)] 203 [] (W) a w | 23 => SR [(7, .slice (some ⟨r, 0, none⟩) 8 8), (128, .bool false), (129, .slice (some ⟨r, 0, none⟩) 8 8)] 203 [] (W) a w | 24 => SR [(7, .slice (some ⟨r, 0, none⟩) 8 8), (128, .bool false), (130, .pointer (some ⟨r, 4, none⟩))] 203 [] (W) a w | 25 => SR [(7, .slice (some ⟨r, 0, none⟩) 8 8), (128, .bool false), (131, .agg #[.int .u8 0, .int .u8 1])] 203 [] (W) a w | 26 => SR [(7, .slice (some ⟨r, 0, none⟩) 8 8), (128, .bool false), (131, .agg #[.int .u8 0, .int .u8 1]), (132, .agg #[.int .u8 0, .int .u8 1])] 203 [] (W) a w | 27 => SR [(7, .slice (some ⟨r, 0, none⟩) 8 8), (128, .bool false), (133, .bool false)] 203 [] (W) a w | 28 => SR [(7, .slice (some ⟨r, 0, none⟩) 8 8), (134, .bool false)] 203 [] (W) a w | 29 => SR [(7, .slice (some ⟨r, 0, none⟩) 8 8), (135, .bool false)] 203 [] (W) a w | 30 => SR [(135, .bool false), (136, .slice (some ⟨r, 0, none⟩) 8 8)] 203 [] (W) a w | 31 => SR [(135, .bool false), (137, .pointer (some ⟨r, 6, none⟩))] 203 [] (W) a w | 32 => SR [(135, .bool false), (138, .agg #[.int .u8 0, .int .u8 0])] 203 [] (W) a w | 33 => SR [(135, .bool false), (138, .agg #[.int .u8 0, .int .u8 0]), (139, .agg #[.int .u8 0, .int .u8 0])] 203 [] (W) a w | 34 => SR [(135, .bool false), (140, .bool false)] 203 [] (W) a w | _ => SR [(141, .bool false)] 203 [] (W) a w) (show SR _ _ _ _ a W from h0) ⟨?_, ?_, ?_, ?_, ?_, ?_, ?_, ?_, ?_, ?_, ?_, ?_, ?_, ?_, ?_, ?_, ?_, ?_, ?_, ?_, ?_, ?_, ?_, ?_, ?_, ?_, ?_, ?_, ?_, ?_, ?_, ?_, ?_, ?_, ?_, trivial⟩ ?_
  · intro a w hI
    have hI : SR _ _ _ _ a w := hI
    have e8 := hI.g 8 rfl
    have hw : w = W := hI.wp
    subst hw
    go_simp
    exact hI.put (d := 107) (by decide) (by simp)
  · intro a w hI
    have hI : SR _ _ _ _ a w := hI
    have e107 := hI.g 107 rfl
    have hw : w = W := hI.wp
    subst hw
    go_simp
    exact hI.put (d := 108) (by decide) (by simp)
  · intro a w hI
    have hI : SR _ _ _ _ a w := hI
    have e108 := hI.g 108 rfl
    have hw : w = W := hI.wp
    subst hw
    go_simp
    exact hI.put (d := 109) (by decide) (by simp)
  · intro a w hI
    have hI : SR _ _ _ _ a w := hI
    have e7 := hI.g 7 rfl
    have e109 := hI.g 109 rfl
    have f109 := slot_bool e109
    have hw : w = W := hI.wp
    subst hw
    go_simp
    exact hI.put (d := 110) (by decide) (by simp)
  · intro a w hI
    have hI : SR _ _ _ _ a w := hI
    have e110 := hI.g 110 rfl
    have e109 := hI.g 109 rfl
    have f109 := slot_bool e109
    have hw : w = W := hI.wp
    subst hw
    go_simp
    exact hI.put (d := 111) (by decide) (by simp)
  · intro a w hI
    have hI : SR _ _ _ _ a w := hI
    have e111 := hI.g 111 rfl
    have e109 := hI.g 109 rfl
    have f109 := slot_bool e109
    have hw : w = W := hI.wp
    subst hw
    go_simp
    exact hI.put (d := 112) (by decide) (by simp)
  · intro a w hI
    have hI : SR _ _ _ _ a w := hI
    have e109 := hI.g 109 rfl
    have e112 := hI.g 112 rfl
    have hw : w = W := hI.wp
    subst hw
    go_simp
    exact hI.put (d := 113) (by decide) (by simp)
  · intro a w hI
    have hI : SR _ _ _ _ a w := hI
    have e113 := hI.g 113 rfl
    have hw : w = W := hI.wp
    subst hw
    go_simp
    exact hI.put (d := 114) (by decide) (by simp)
  · intro a w hI
    have hI : SR _ _ _ _ a w := hI
    have e7 := hI.g 7 rfl
    have e114 := hI.g 114 rfl
    have f114 := slot_bool e114
    have hw : w = W := hI.wp
    subst hw
    go_simp
    exact hI.put (d := 115) (by decide) (by simp)
  · intro a w hI
    have hI : SR _ _ _ _ a w := hI
    have e115 := hI.g 115 rfl
    have e114 := hI.g 114 rfl
    have f114 := slot_bool e114
    have hw : w = W := hI.wp
    subst hw
    go_simp
    exact hI.put (d := 116) (by decide) (by simp)
  · intro a w hI
    have hI : SR _ _ _ _ a w := hI
    have e116 := hI.g 116 rfl
    have e114 := hI.g 114 rfl
    have f114 := slot_bool e114
    have hw : w = W := hI.wp
    subst hw
    go_simp
    exact hI.put (d := 117) (by decide) (by simp)
  · intro a w hI
    have hI : SR _ _ _ _ a w := hI
    have e114 := hI.g 114 rfl
    have f114 := slot_bool e114
    have hw : w = W := hI.wp
    subst hw
    go_simp
    exact hI.put (d := 118) (by decide) (by simp)
  · intro a w hI
    have hI : SR _ _ _ _ a w := hI
    have e117 := hI.g 117 rfl
    have e118 := hI.g 118 rfl
    have e114 := hI.g 114 rfl
    have f114 := slot_bool e114
    have hw : w = W := hI.wp
    subst hw
    go_simp
    exact hI.put (d := 119) (by decide) (by simp)
  · intro a w hI
    have hI : SR _ _ _ _ a w := hI
    have e114 := hI.g 114 rfl
    have e119 := hI.g 119 rfl
    have hw : w = W := hI.wp
    subst hw
    go_simp
    exact hI.put (d := 120) (by decide) (by simp)
  · intro a w hI
    have hI : SR _ _ _ _ a w := hI
    have e120 := hI.g 120 rfl
    have hw : w = W := hI.wp
    subst hw
    go_simp
    exact hI.put (d := 121) (by decide) (by simp)
  · intro a w hI
    have hI : SR _ _ _ _ a w := hI
    have e7 := hI.g 7 rfl
    have e121 := hI.g 121 rfl
    have f121 := slot_bool e121
    have hw : w = W := hI.wp
    subst hw
    go_simp
    exact hI.put (d := 122) (by decide) (by simp)
  · intro a w hI
    have hI : SR _ _ _ _ a w := hI
    have e122 := hI.g 122 rfl
    have e121 := hI.g 121 rfl
    have f121 := slot_bool e121
    have hw : w = W := hI.wp
    subst hw
    go_simp
    exact hI.put (d := 123) (by decide) (by simp)
  · intro a w hI
    have hI : SR _ _ _ _ a w := hI
    have e123 := hI.g 123 rfl
    have e121 := hI.g 121 rfl
    have f121 := slot_bool e121
    have hw : w = W := hI.wp
    subst hw
    go_simp
    exact hI.put (d := 124) (by decide) (by simp)
  · intro a w hI
    have hI : SR _ _ _ _ a w := hI
    have e121 := hI.g 121 rfl
    have f121 := slot_bool e121
    have hw : w = W := hI.wp
    subst hw
    go_simp
    exact hI.put (d := 125) (by decide) (by simp)
  · intro a w hI
    have hI : SR _ _ _ _ a w := hI
    have e124 := hI.g 124 rfl
    have e125 := hI.g 125 rfl
    have e121 := hI.g 121 rfl
    have f121 := slot_bool e121
    have hw : w = W := hI.wp
    subst hw
    go_simp
    exact hI.put (d := 126) (by decide) (by simp)
  · intro a w hI
    have hI : SR _ _ _ _ a w := hI
    have e121 := hI.g 121 rfl
    have e126 := hI.g 126 rfl
    have hw : w = W := hI.wp
    subst hw
    go_simp
    exact hI.put (d := 127) (by decide) (by simp)
  · intro a w hI
    have hI : SR _ _ _ _ a w := hI
    have e127 := hI.g 127 rfl
    have hw : w = W := hI.wp
    subst hw
    go_simp
    exact hI.put (d := 128) (by decide) (by simp)
  · intro a w hI
    have hI : SR _ _ _ _ a w := hI
    have e7 := hI.g 7 rfl
    have e128 := hI.g 128 rfl
    have f128 := slot_bool e128
    have hw : w = W := hI.wp
    subst hw
    go_simp
    exact hI.put (d := 129) (by decide) (by simp)
  · intro a w hI
    have hI : SR _ _ _ _ a w := hI
    have e129 := hI.g 129 rfl
    have e128 := hI.g 128 rfl
    have f128 := slot_bool e128
    have hw : w = W := hI.wp
    subst hw
    go_simp
    exact hI.put (d := 130) (by decide) (by simp)
  · intro a w hI
    have hI : SR _ _ _ _ a w := hI
    have e130 := hI.g 130 rfl
    have e128 := hI.g 128 rfl
    have f128 := slot_bool e128
    have hw : w = W := hI.wp
    subst hw
    go_simp
    exact hI.put (d := 131) (by decide) (by simp)
  · intro a w hI
    have hI : SR _ _ _ _ a w := hI
    have e128 := hI.g 128 rfl
    have f128 := slot_bool e128
    have hw : w = W := hI.wp
    subst hw
    go_simp
    exact hI.put (d := 132) (by decide) (by simp)
  · intro a w hI
    have hI : SR _ _ _ _ a w := hI
    have e131 := hI.g 131 rfl
    have e132 := hI.g 132 rfl
    have e128 := hI.g 128 rfl
    have f128 := slot_bool e128
    have hw : w = W := hI.wp
    subst hw
    go_simp
    exact hI.put (d := 133) (by decide) (by simp)
  · intro a w hI
    have hI : SR _ _ _ _ a w := hI
    have e128 := hI.g 128 rfl
    have e133 := hI.g 133 rfl
    have hw : w = W := hI.wp
    subst hw
    go_simp
    exact hI.put (d := 134) (by decide) (by simp)
  · intro a w hI
    have hI : SR _ _ _ _ a w := hI
    have e134 := hI.g 134 rfl
    have hw : w = W := hI.wp
    subst hw
    go_simp
    exact hI.put (d := 135) (by decide) (by simp)
  · intro a w hI
    have hI : SR _ _ _ _ a w := hI
    have e7 := hI.g 7 rfl
    have e135 := hI.g 135 rfl
    have f135 := slot_bool e135
    have hw : w = W := hI.wp
    subst hw
    go_simp
    exact hI.put (d := 136) (by decide) (by simp)
  · intro a w hI
    have hI : SR _ _ _ _ a w := hI
    have e136 := hI.g 136 rfl
    have e135 := hI.g 135 rfl
    have f135 := slot_bool e135
    have hw : w = W := hI.wp
    subst hw
    go_simp
    exact hI.put (d := 137) (by decide) (by simp)
  · intro a w hI
    have hI : SR _ _ _ _ a w := hI
    have e137 := hI.g 137 rfl
    have e135 := hI.g 135 rfl
    have f135 := slot_bool e135
    have hw : w = W := hI.wp
    subst hw
    go_simp
    exact hI.put (d := 138) (by decide) (by simp)
  · intro a w hI
    have hI : SR _ _ _ _ a w := hI
    have e135 := hI.g 135 rfl
    have f135 := slot_bool e135
    have hw : w = W := hI.wp
    subst hw
    go_simp
    exact hI.put (d := 139) (by decide) (by simp)
  · intro a w hI
    have hI : SR _ _ _ _ a w := hI
    have e138 := hI.g 138 rfl
    have e139 := hI.g 139 rfl
    have e135 := hI.g 135 rfl
    have f135 := slot_bool e135
    have hw : w = W := hI.wp
    subst hw
    go_simp
    exact hI.put (d := 140) (by decide) (by simp)
  · intro a w hI
    have hI : SR _ _ _ _ a w := hI
    have e135 := hI.g 135 rfl
    have e140 := hI.g 140 rfl
    have hw : w = W := hI.wp
    subst hw
    go_simp
    exact hI.put (d := 141) (by decide) (by simp)
  · intro a w hI
    have hI : SR _ _ _ _ a w := hI
    have hw : w = W := hI.wp
    subst hw
    exact hQ a hI
set_option maxRecDepth 100000 in
set_option maxHeartbeats 4000000 in
theorem kn11 (n : Nat) {G : World → Prop} (hS : Stable G)  (hc : ∀ m w, G w → CallsIn Fence.wide m Try.prog 14 #[.agg #[.int .i64 0, .int .i64 1, .int .i64 1, .slice none 0 0]] w fun e w' => e = .returned (.tuple #[.slice none 0 0, .int .i64 2]) ∧ Below w.heap.size w w') (Q : Exit → Act → World → Prop) (a : Act) (w : World) (h0 : SG [] 203 G a w)
    (hQ : ∀ a w, SG [(10, .int .i64 2)] 203 G a w → Q .normal a w) : (regOf 11 C10).wpIn Fence.wide n Try.prog Q a w := by
  simp only [regOf, C10, Try.f10, Option.getD, Nat.reduceBEq, Bool.false_eq_true, if_true, if_false]
  refine region_sq (fun k_ a w => match k_ with | 0 => SG [] 203 G a w | 1 => SG [(143, .agg #[.int .i64 0, .int .i64 1, .int .i64 1, .slice none 0 0])] 203 G a w | 2 => SG [(144, .tuple #[.slice none 0 0, .int .i64 2])] 203 G a w | 3 => SG [(142, .tuple #[.slice none 0 0, .int .i64 2])] 203 G a w | 4 => SG [(142, .tuple #[.slice none 0 0, .int .i64 2]), (145, .slice none 0 0)] 203 G a w | 5 => SG [(145, .slice none 0 0), (146, .int .i64 2)] 203 G a w | 6 => SG [(146, .int .i64 2)] 203 G a w | _ => SG [(10, .int .i64 2)] 203 G a w) (show SG _ _ G a w from h0) ⟨?_, ?_, ?_, ?_, ?_, ?_, ?_, trivial⟩ ?_
  · intro a w hI
    have hI : SG _ _ G a w := hI
    go_simp
    exact hI.put (d := 143) (by decide) (by simp) hI.wp
  · intro a w hI
    have hI : SG _ _ G a w := hI
    have e143 := hI.g 143 rfl
    go_simp
    refine ⟨trivial, fun h => (by cases h), (hc (n - 1) w hI.wp).mono ?_⟩
    rintro e w' ⟨rfl, hb2⟩
    exact hI.put (d := 144) (by decide) (by simp) (hS _ _ hI.wp hb2)
  · intro a w hI
    have hI : SG _ _ G a w := hI
    have e144 := hI.g 144 rfl
    go_simp
    exact hI.put (d := 142) (by decide) (by simp) hI.wp
  · intro a w hI
    have hI : SG _ _ G a w := hI
    have e142 := hI.g 142 rfl
    go_simp
    exact hI.put (d := 145) (by decide) (by simp) hI.wp
  · intro a w hI
    have hI : SG _ _ G a w := hI
    have e142 := hI.g 142 rfl
    go_simp
    exact hI.put (d := 146) (by decide) (by simp) hI.wp
  · intro a w hI
    have hI : SG _ _ G a w := hI
    have e145 := hI.g 145 rfl
    go_simp
    exact hI.put (d := 9) (by decide) (by simp) hI.wp
  · intro a w hI
    have hI : SG _ _ G a w := hI
    have e146 := hI.g 146 rfl
    go_simp
    exact hI.put (d := 10) (by decide) (by simp) hI.wp
  · intro a w hI
    have hI : SG _ _ G a w := hI
    exact hQ a w hI
set_option maxRecDepth 100000 in
set_option maxHeartbeats 4000000 in
theorem kn12 (n : Nat) {G : World → Prop} (hS : Stable G)  (hc : ∀ m w, G w → CallsIn Fence.wide m Try.prog 14 #[.agg #[.int .i64 1, .int .i64 1, .int .i64 1, .slice none 0 0]] w fun e w' => e = .returned (.tuple #[.slice none 0 0, .int .i64 2]) ∧ Below w.heap.size w w') (Q : Exit → Act → World → Prop) (a : Act) (w : World) (h0 : SG [(10, .int .i64 2)] 203 G a w)
    (hQ : ∀ a w, SG [(10, .int .i64 2), (12, .int .i64 2)] 203 G a w → Q .normal a w) : (regOf 12 C10).wpIn Fence.wide n Try.prog Q a w := by
  simp only [regOf, C10, Try.f10, Option.getD, Nat.reduceBEq, Bool.false_eq_true, if_true, if_false]
  refine region_sq (fun k_ a w => match k_ with | 0 => SG [(10, .int .i64 2)] 203 G a w | 1 => SG [(10, .int .i64 2), (148, .agg #[.int .i64 1, .int .i64 1, .int .i64 1, .slice none 0 0])] 203 G a w | 2 => SG [(10, .int .i64 2), (149, .tuple #[.slice none 0 0, .int .i64 2])] 203 G a w | 3 => SG [(10, .int .i64 2), (147, .tuple #[.slice none 0 0, .int .i64 2])] 203 G a w | 4 => SG [(10, .int .i64 2), (147, .tuple #[.slice none 0 0, .int .i64 2]), (150, .slice none 0 0)] 203 G a w | 5 => SG [(10, .int .i64 2), (150, .slice none 0 0), (151, .int .i64 2)] 203 G a w | 6 => SG [(10, .int .i64 2), (151, .int .i64 2)] 203 G a w | _ => SG [(10, .int .i64 2), (12, .int .i64 2)] 203 G a w) (show SG _ _ G a w from h0) ⟨?_, ?_, ?_, ?_, ?_, ?_, ?_, trivial⟩ ?_
  · intro a w hI
    have hI : SG _ _ G a w := hI
    go_simp
    exact hI.put (d := 148) (by decide) (by simp) hI.wp
  · intro a w hI
    have hI : SG _ _ G a w := hI
    have e148 := hI.g 148 rfl
    go_simp
    refine ⟨trivial, fun h => (by cases h), (hc (n - 1) w hI.wp).mono ?_⟩
    rintro e w' ⟨rfl, hb2⟩
    exact hI.put (d := 149) (by decide) (by simp) (hS _ _ hI.wp hb2)
  · intro a w hI
    have hI : SG _ _ G a w := hI
    have e149 := hI.g 149 rfl
    go_simp
    exact hI.put (d := 147) (by decide) (by simp) hI.wp
  · intro a w hI
    have hI : SG _ _ G a w := hI
    have e147 := hI.g 147 rfl
    go_simp
    exact hI.put (d := 150) (by decide) (by simp) hI.wp
  · intro a w hI
    have hI : SG _ _ G a w := hI
    have e147 := hI.g 147 rfl
    go_simp
    exact hI.put (d := 151) (by decide) (by simp) hI.wp
  · intro a w hI
    have hI : SG _ _ G a w := hI
    have e150 := hI.g 150 rfl
    go_simp
    exact hI.put (d := 11) (by decide) (by simp) hI.wp
  · intro a w hI
    have hI : SG _ _ G a w := hI
    have e151 := hI.g 151 rfl
    go_simp
    exact hI.put (d := 12) (by decide) (by simp) hI.wp
  · intro a w hI
    have hI : SG _ _ G a w := hI
    exact hQ a w hI
set_option maxRecDepth 100000 in
set_option maxHeartbeats 4000000 in
theorem kn13 (n : Nat) {G : World → Prop} (hS : Stable G)  (hc : ∀ m w, G w → CallsIn Fence.wide m Try.prog 14 #[.agg #[.int .i64 256, .int .i64 256, .int .i64 5, .slice none 0 0]] w fun e w' => e = .returned (.tuple #[.slice none 0 0, .int .i64 3]) ∧ Below w.heap.size w w') (Q : Exit → Act → World → Prop) (a : Act) (w : World) (h0 : SG [(10, .int .i64 2), (12, .int .i64 2)] 203 G a w)
    (hQ : ∀ a w, SG [(10, .int .i64 2), (12, .int .i64 2), (14, .int .i64 3)] 203 G a w → Q .normal a w) : (regOf 13 C10).wpIn Fence.wide n Try.prog Q a w := by
  simp only [regOf, C10, Try.f10, Option.getD, Nat.reduceBEq, Bool.false_eq_true, if_true, if_false]
  refine region_sq (fun k_ a w => match k_ with | 0 => SG [(10, .int .i64 2), (12, .int .i64 2)] 203 G a w | 1 => SG [(10, .int .i64 2), (12, .int .i64 2), (153, .agg #[.int .i64 256, .int .i64 256, .int .i64 5, .slice none 0 0])] 203 G a w | 2 => SG [(10, .int .i64 2), (12, .int .i64 2), (154, .tuple #[.slice none 0 0, .int .i64 3])] 203 G a w | 3 => SG [(10, .int .i64 2), (12, .int .i64 2), (152, .tuple #[.slice none 0 0, .int .i64 3])] 203 G a w | 4 => SG [(10, .int .i64 2), (12, .int .i64 2), (152, .tuple #[.slice none 0 0, .int .i64 3]), (155, .slice none 0 0)] 203 G a w | 5 => SG [(10, .int .i64 2), (12, .int .i64 2), (155, .slice none 0 0), (156, .int .i64 3)] 203 G a w | 6 => SG [(10, .int .i64 2), (12, .int .i64 2), (156, .int .i64 3)] 203 G a w | _ => SG [(10, .int .i64 2), (12, .int .i64 2), (14, .int .i64 3)] 203 G a w) (show SG _ _ G a w from h0) ⟨?_, ?_, ?_, ?_, ?_, ?_, ?_, trivial⟩ ?_
  · intro a w hI
    have hI : SG _ _ G a w := hI
    go_simp
    exact hI.put (d := 153) (by decide) (by simp) hI.wp
  · intro a w hI
    have hI : SG _ _ G a w := hI
    have e153 := hI.g 153 rfl
    go_simp
    refine ⟨trivial, fun h => (by cases h), (hc (n - 1) w hI.wp).mono ?_⟩
    rintro e w' ⟨rfl, hb2⟩
    exact hI.put (d := 154) (by decide) (by simp) (hS _ _ hI.wp hb2)
  · intro a w hI
    have hI : SG _ _ G a w := hI
    have e154 := hI.g 154 rfl
    go_simp
    exact hI.put (d := 152) (by decide) (by simp) hI.wp
  · intro a w hI
    have hI : SG _ _ G a w := hI
    have e152 := hI.g 152 rfl
    go_simp
    exact hI.put (d := 155) (by decide) (by simp) hI.wp
  · intro a w hI
    have hI : SG _ _ G a w := hI
    have e152 := hI.g 152 rfl
    go_simp
    exact hI.put (d := 156) (by decide) (by simp) hI.wp
  · intro a w hI
    have hI : SG _ _ G a w := hI
    have e155 := hI.g 155 rfl
    go_simp
    exact hI.put (d := 13) (by decide) (by simp) hI.wp
  · intro a w hI
    have hI : SG _ _ G a w := hI
    have e156 := hI.g 156 rfl
    go_simp
    exact hI.put (d := 14) (by decide) (by simp) hI.wp
  · intro a w hI
    have hI : SG _ _ G a w := hI
    exact hQ a w hI
set_option maxRecDepth 100000 in
set_option maxHeartbeats 4000000 in
theorem kn14 (n : Nat) {G : World → Prop}  (G1 : Nat → World → Prop) (hst : ∀ w, G w → G1 w.heap.size (w.alloc (.cells (madeCells #[.int .u8 0, .int .u8 0] (257 * 2)) 32))) (G2 : Nat → Nat → World → Prop) (hc : ∀ m g2 w, G1 g2 w → CallsIn Fence.wide m Try.prog 14 #[.agg #[.int .i64 257, .int .i64 1, .int .i64 1, .slice (some ⟨g2, 0, none⟩) 257 257]] w fun e w' => ∃ r : Nat, e = .returned (.tuple #[.slice none 0 0, .int .i64 2]) ∧ G2 g2 r w') (Q : Exit → Act → World → Prop) (a : Act) (w : World) (h0 : SG [(10, .int .i64 2), (12, .int .i64 2), (14, .int .i64 3)] 203 G a w)
    (hQ : ∀ g2 r a w, SG [(10, .int .i64 2), (12, .int .i64 2), (14, .int .i64 3), (16, .int .i64 2)] 203 (G2 g2 r) a w → Q .normal a w) : (regOf 14 C10).wpIn Fence.wide n Try.prog Q a w := by
  obtain ⟨i0, hi, hz0, hz1, hz2⟩ := info_parts info32
  simp only [regOf, C10, Try.f10, Option.getD, Nat.reduceBEq, Bool.false_eq_true, if_true, if_false]
  refine region_sq (fun k_ a w => match k_ with | 0 => SG [(10, .int .i64 2), (12, .int .i64 2), (14, .int .i64 3)] 203 G a w | 1 => ∃ g2, SG [(10, .int .i64 2), (12, .int .i64 2), (14, .int .i64 3), (158, .slice (some ⟨g2, 0, none⟩) 257 257)] 203 (G1 g2) a w | 2 => ∃ g2, SG [(10, .int .i64 2), (12, .int .i64 2), (14, .int .i64 3), (159, .agg #[.int .i64 257, .int .i64 1, .int .i64 1, .slice (some ⟨g2, 0, none⟩) 257 257])] 203 (G1 g2) a w | 3 => ∃ g2 r, SG [(10, .int .i64 2), (12, .int .i64 2), (14, .int .i64 3), (160, .tuple #[.slice none 0 0, .int .i64 2])] 203 (G2 g2 r) a w | 4 => ∃ g2 r, SG [(10, .int .i64 2), (12, .int .i64 2), (14, .int .i64 3), (157, .tuple #[.slice none 0 0, .int .i64 2])] 203 (G2 g2 r) a w | 5 => ∃ g2 r, SG [(10, .int .i64 2), (12, .int .i64 2), (14, .int .i64 3), (157, .tuple #[.slice none 0 0, .int .i64 2]), (161, .slice none 0 0)] 203 (G2 g2 r) a w | 6 => ∃ g2 r, SG [(10, .int .i64 2), (12, .int .i64 2), (14, .int .i64 3), (161, .slice none 0 0), (162, .int .i64 2)] 203 (G2 g2 r) a w | 7 => ∃ g2 r, SG [(10, .int .i64 2), (12, .int .i64 2), (14, .int .i64 3), (162, .int .i64 2)] 203 (G2 g2 r) a w | _ => ∃ g2 r, SG [(10, .int .i64 2), (12, .int .i64 2), (14, .int .i64 3), (16, .int .i64 2)] 203 (G2 g2 r) a w) (show SG _ _ G a w from h0) ⟨?_, ?_, ?_, ?_, ?_, ?_, ?_, ?_, trivial⟩ ?_
  · intro a w hI
    have hI : SG _ _ G a w := hI
    have hmk := run_make (P := Try.prog) w 22 32 i0 (.agg #[.int .u8 0, .int .u8 0]) under22 hi hz0 .i64 .i64 257 257 (by omega) (Int.le_refl _) (by rw [hz2]; omega) (by omega)
    rw [hz1] at hmk
    replace hmk : (Instr.makeSlice 22 (.int .i64 257) (.int .i64 257)).run Try.prog w = .ok (.slice (some ⟨w.heap.size, 0, none⟩) 257 257) (w.alloc (.cells (madeCells #[.int .u8 0, .int .u8 0] (257 * 2)) 32)) := hmk
    go_simp
    exact ⟨w.heap.size, hI.put (d := 158) (by decide) (by simp) (hst w hI.wp)⟩
  · rintro a w ⟨g2, hI⟩
    have e158 := hI.g 158 rfl
    go_simp
    exact ⟨g2, hI.put (d := 159) (by decide) (by simp) hI.wp⟩
  · rintro a w ⟨g2, hI⟩
    have e159 := hI.g 159 rfl
    go_simp
    refine ⟨trivial, fun h => (by cases h), (hc (n - 1) g2 w hI.wp).mono ?_⟩
    rintro e w' ⟨r, rfl, hg2⟩
    exact ⟨g2, r, hI.put (d := 160) (by decide) (by simp) hg2⟩
  · rintro a w ⟨g2, r, hI⟩
    have e160 := hI.g 160 rfl
    go_simp
    exact ⟨g2, r, hI.put (d := 157) (by decide) (by simp) hI.wp⟩
  · rintro a w ⟨g2, r, hI⟩
    have e157 := hI.g 157 rfl
    go_simp
    exact ⟨g2, r, hI.put (d := 161) (by decide) (by simp) hI.wp⟩
  · rintro a w ⟨g2, r, hI⟩
    have e157 := hI.g 157 rfl
    go_simp
    exact ⟨g2, r, hI.put (d := 162) (by decide) (by simp) hI.wp⟩
  · rintro a w ⟨g2, r, hI⟩
    have e161 := hI.g 161 rfl
    go_simp
    exact ⟨g2, r, hI.put (d := 15) (by decide) (by simp) hI.wp⟩
  · rintro a w ⟨g2, r, hI⟩
    have e162 := hI.g 162 rfl
    go_simp
    exact ⟨g2, r, hI.put (d := 16) (by decide) (by simp) hI.wp⟩
  · rintro a w ⟨g2, r, hI⟩
    exact hQ g2 r a w hI
set_option maxRecDepth 100000 in
set_option maxHeartbeats 4000000 in
theorem kn15 (n : Nat) {G : World → Prop}  (G1 : Nat → World → Prop) (hst : ∀ w, G w → G1 w.heap.size (w.alloc (.cells (madeCells #[.int .u8 0, .int .u8 0] (2 * 2)) 32))) (G2 : Nat → Nat → World → Prop) (hc : ∀ m g2 w, G1 g2 w → CallsIn Fence.wide m Try.prog 14 #[.agg #[.int .i64 1, .int .i64 1, .int .i64 1, .slice (some ⟨g2, 0, none⟩) 2 2]] w fun e w' => ∃ r : Nat, e = .returned (.tuple #[.slice none 0 0, .int .i64 2]) ∧ G2 g2 r w') (Q : Exit → Act → World → Prop) (a : Act) (w : World) (h0 : SG [(10, .int .i64 2), (12, .int .i64 2), (14, .int .i64 3), (16, .int .i64 2)] 203 G a w)
    (hQ : ∀ g2 r a w, SG [(10, .int .i64 2), (12, .int .i64 2), (14, .int .i64 3), (16, .int .i64 2), (18, .int .i64 2)] 203 (G2 g2 r) a w → Q .normal a w) : (regOf 15 C10).wpIn Fence.wide n Try.prog Q a w := by
  obtain ⟨i0, hi, hz0, hz1, hz2⟩ := info_parts info32
  simp only [regOf, C10, Try.f10, Option.getD, Nat.reduceBEq, Bool.false_eq_true, if_true, if_false]
  refine region_sq (fun k_ a w => match k_ with | 0 => SG [(10, .int .i64 2), (12, .int .i64 2), (14, .int .i64 3), (16, .int .i64 2)] 203 G a w | 1 => ∃ g2, SG [(10, .int .i64 2), (12, .int .i64 2), (14, .int .i64 3), (16, .int .i64 2), (164, .slice (some ⟨g2, 0, none⟩) 2 2)] 203 (G1 g2) a w | 2 => ∃ g2, SG [(10, .int .i64 2), (12, .int .i64 2), (14, .int .i64 3), (16, .int .i64 2), (165, .agg #[.int .i64 1, .int .i64 1, .int .i64 1, .slice (some ⟨g2, 0, none⟩) 2 2])] 203 (G1 g2) a w | 3 => ∃ g2 r, SG [(10, .int .i64 2), (12, .int .i64 2), (14, .int .i64 3), (16, .int .i64 2), (166, .tuple #[.slice none 0 0, .int .i64 2])] 203 (G2 g2 r) a w | 4 => ∃ g2 r, SG [(10, .int .i64 2), (12, .int .i64 2), (14, .int .i64 3), (16, .int .i64 2), (163, .tuple #[.slice none 0 0, .int .i64 2])] 203 (G2 g2 r) a w | 5 => ∃ g2 r, SG [(10, .int .i64 2), (12, .int .i64 2), (14, .int .i64 3), (16, .int .i64 2), (163, .tuple #[.slice none 0 0, .int .i64 2]), (167, .slice none 0 0)] 203 (G2 g2 r) a w | 6 => ∃ g2 r, SG [(10, .int .i64 2), (12, .int .i64 2), (14, .int .i64 3), (16, .int .i64 2), (167, .slice none 0 0), (168, .int .i64 2)] 203 (G2 g2 r) a w | 7 => ∃ g2 r, SG [(10, .int .i64 2), (12, .int .i64 2), (14, .int .i64 3), (16, .int .i64 2), (168, .int .i64 2)] 203 (G2 g2 r) a w | _ => ∃ g2 r, SG [(10, .int .i64 2), (12, .int .i64 2), (14, .int .i64 3), (16, .int .i64 2), (18, .int .i64 2)] 203 (G2 g2 r) a w) (show SG _ _ G a w from h0) ⟨?_, ?_, ?_, ?_, ?_, ?_, ?_, ?_, trivial⟩ ?_
  · intro a w hI
    have hI : SG _ _ G a w := hI
    have hmk := run_make (P := Try.prog) w 22 32 i0 (.agg #[.int .u8 0, .int .u8 0]) under22 hi hz0 .i64 .i64 2 2 (by omega) (Int.le_refl _) (by rw [hz2]; omega) (by omega)
    rw [hz1] at hmk
    replace hmk : (Instr.makeSlice 22 (.int .i64 2) (.int .i64 2)).run Try.prog w = .ok (.slice (some ⟨w.heap.size, 0, none⟩) 2 2) (w.alloc (.cells (madeCells #[.int .u8 0, .int .u8 0] (2 * 2)) 32)) := hmk
    go_simp
    exact ⟨w.heap.size, hI.put (d := 164) (by decide) (by simp) (hst w hI.wp)⟩
  · rintro a w ⟨g2, hI⟩
    have e164 := hI.g 164 rfl
    go_simp
    exact ⟨g2, hI.put (d := 165) (by decide) (by simp) hI.wp⟩
  · rintro a w ⟨g2, hI⟩
    have e165 := hI.g 165 rfl
    go_simp
    refine ⟨trivial, fun h => (by cases h), (hc (n - 1) g2 w hI.wp).mono ?_⟩
    rintro e w' ⟨r, rfl, hg2⟩
    exact ⟨g2, r, hI.put (d := 166) (by decide) (by simp) hg2⟩
  · rintro a w ⟨g2, r, hI⟩
    have e166 := hI.g 166 rfl
    go_simp
    exact ⟨g2, r, hI.put (d := 163) (by decide) (by simp) hI.wp⟩
  · rintro a w ⟨g2, r, hI⟩
    have e163 := hI.g 163 rfl
    go_simp
    exact ⟨g2, r, hI.put (d := 167) (by decide) (by simp) hI.wp⟩
  · rintro a w ⟨g2, r, hI⟩
    have e163 := hI.g 163 rfl
    go_simp
    exact ⟨g2, r, hI.put (d := 168) (by decide) (by simp) hI.wp⟩
  · rintro a w ⟨g2, r, hI⟩
    have e167 := hI.g 167 rfl
    go_simp
    exact ⟨g2, r, hI.put (d := 17) (by decide) (by simp) hI.wp⟩
  · rintro a w ⟨g2, r, hI⟩
    have e168 := hI.g 168 rfl
    go_simp
    exact ⟨g2, r, hI.put (d := 18) (by decide) (by simp) hI.wp⟩
  · rintro a w ⟨g2, r, hI⟩
    exact hQ g2 r a w hI
set_option maxRecDepth 100000 in
set_option maxHeartbeats 4000000 in
theorem kn16 (n : Nat) (W : World)  (Q : Exit → Act → World → Prop) (a : Act) (h0 : SR [(10, .int .i64 2), (12, .int .i64 2), (14, .int .i64 3), (16, .int .i64 2), (18, .int .i64 2)] 203 [] W a W)
    (hQ : ∀ a, SR [(10, .int .i64 2), (12, .int .i64 2), (14, .int .i64 3), (16, .int .i64 2), (170, .bool false)] 203 [] (W) a (W) → Q .normal a (W)) : (regOf 16 C10).wpIn Fence.wide n Try.prog Q a W := by
  simp only [regOf, C10, Try.f10, Option.getD, Nat.reduceBEq, Bool.false_eq_true, if_true, if_false]
  refine region_sq (fun k_ a w => match k_ with | 0 => SR [(10, .int .i64 2), (12, .int .i64 2), (14, .int .i64 3), (16, .int .i64 2), (18, .int .i64 2)] 203 [] (W) a w | 1 => SR [(10, .int .i64 2), (12, .int .i64 2), (14, .int .i64 3), (16, .int .i64 2), (169, .int .i64 2)] 203 [] (W) a w | _ => SR [(10, .int .i64 2), (12, .int .i64 2), (14, .int .i64 3), (16, .int .i64 2), (170, .bool false)] 203 [] (W) a w) (show SR _ _ _ _ a W from h0) ⟨?_, ?_, trivial⟩ ?_
  · intro a w hI
    have hI : SR _ _ _ _ a w := hI
    have e18 := hI.g 18 rfl
    have hw : w = W := hI.wp
    subst hw
    go_simp
    exact hI.put (d := 169) (by decide) (by simp)
  · intro a w hI
    have hI : SR _ _ _ _ a w := hI
    have e169 := hI.g 169 rfl
    have hw : w = W := hI.wp
    subst hw
    go_simp
    exact hI.put (d := 170) (by decide) (by simp)
  · intro a w hI
    have hI : SR _ _ _ _ a w := hI
    have hw : w = W := hI.wp
    subst hw
    exact hQ a hI
set_option maxRecDepth 100000 in
set_option maxHeartbeats 4000000 in
theorem kn18 (n : Nat) {G : World → Prop}  (G1 : Nat → World → Prop) (hst : ∀ w, G w → G1 w.heap.size (w.alloc (.cells (madeCells #[.int .u8 0, .int .u8 0] (262144 * 2)) 32))) (G2 : Nat → Nat → World → Prop) (hc : ∀ m g2 w, G1 g2 w → CallsIn Fence.wide m Try.prog 14 #[.agg #[.int .i64 64, .int .i64 64, .int .i64 64, .slice (some ⟨g2, 0, none⟩) 262144 262144]] w fun e w' => ∃ r : Nat, e = .returned (.tuple #[.slice (some ⟨r, 0, none⟩) 262144 262144, .int .i64 0]) ∧ G2 g2 r w') (Q : Exit → Act → World → Prop) (a : Act) (w : World) (h0 : SG [(10, .int .i64 2), (12, .int .i64 2), (14, .int .i64 3), (16, .int .i64 2)] 203 G a w)
    (hQ : ∀ g2 r a w, SG [(10, .int .i64 2), (12, .int .i64 2), (14, .int .i64 3), (16, .int .i64 2), (19, .slice (some ⟨r, 0, none⟩) 262144 262144), (20, .int .i64 0)] 203 (G2 g2 r) a w → Q .normal a w) : (regOf 18 C10).wpIn Fence.wide n Try.prog Q a w := by
  obtain ⟨i0, hi, hz0, hz1, hz2⟩ := info_parts info32
  simp only [regOf, C10, Try.f10, Option.getD, Nat.reduceBEq, Bool.false_eq_true, if_true, if_false]
  refine region_sq (fun k_ a w => match k_ with | 0 => SG [(10, .int .i64 2), (12, .int .i64 2), (14, .int .i64 3), (16, .int .i64 2)] 203 G a w | 1 => ∃ g2, SG [(10, .int .i64 2), (12, .int .i64 2), (14, .int .i64 3), (16, .int .i64 2), (172, .slice (some ⟨g2, 0, none⟩) 262144 262144)] 203 (G1 g2) a w | 2 => ∃ g2, SG [(10, .int .i64 2), (12, .int .i64 2), (14, .int .i64 3), (16, .int .i64 2), (173, .agg #[.int .i64 64, .int .i64 64, .int .i64 64, .slice (some ⟨g2, 0, none⟩) 262144 262144])] 203 (G1 g2) a w | 3 => ∃ g2 r, SG [(10, .int .i64 2), (12, .int .i64 2), (14, .int .i64 3), (16, .int .i64 2), (174, .tuple #[.slice (some ⟨r, 0, none⟩) 262144 262144, .int .i64 0])] 203 (G2 g2 r) a w | 4 => ∃ g2 r, SG [(10, .int .i64 2), (12, .int .i64 2), (14, .int .i64 3), (16, .int .i64 2), (171, .tuple #[.slice (some ⟨r, 0, none⟩) 262144 262144, .int .i64 0])] 203 (G2 g2 r) a w | 5 => ∃ g2 r, SG [(10, .int .i64 2), (12, .int .i64 2), (14, .int .i64 3), (16, .int .i64 2), (171, .tuple #[.slice (some ⟨r, 0, none⟩) 262144 262144, .int .i64 0]), (175, .slice (some ⟨r, 0, none⟩) 262144 262144)] 203 (G2 g2 r) a w | 6 => ∃ g2 r, SG [(10, .int .i64 2), (12, .int .i64 2), (14, .int .i64 3), (16, .int .i64 2), (175, .slice (some ⟨r, 0, none⟩) 262144 262144), (176, .int .i64 0)] 203 (G2 g2 r) a w | 7 => ∃ g2 r, SG [(10, .int .i64 2), (12, .int .i64 2), (14, .int .i64 3), (16, .int .i64 2), (176, .int .i64 0), (19, .slice (some ⟨r, 0, none⟩) 262144 262144)] 203 (G2 g2 r) a w | _ => ∃ g2 r, SG [(10, .int .i64 2), (12, .int .i64 2), (14, .int .i64 3), (16, .int .i64 2), (19, .slice (some ⟨r, 0, none⟩) 262144 262144), (20, .int .i64 0)] 203 (G2 g2 r) a w) (show SG _ _ G a w from h0) ⟨?_, ?_, ?_, ?_, ?_, ?_, ?_, ?_, trivial⟩ ?_
  · intro a w hI
    have hI : SG _ _ G a w := hI
    have hmk := run_make (P := Try.prog) w 22 32 i0 (.agg #[.int .u8 0, .int .u8 0]) under22 hi hz0 .i64 .i64 262144 262144 (by omega) (Int.le_refl _) (by rw [hz2]; omega) (by omega)
    rw [hz1] at hmk
    replace hmk : (Instr.makeSlice 22 (.int .i64 262144) (.int .i64 262144)).run Try.prog w = .ok (.slice (some ⟨w.heap.size, 0, none⟩) 262144 262144) (w.alloc (.cells (madeCells #[.int .u8 0, .int .u8 0] (262144 * 2)) 32)) := hmk
    go_simp
    exact ⟨w.heap.size, hI.put (d := 172) (by decide) (by simp) (hst w hI.wp)⟩
  · rintro a w ⟨g2, hI⟩
    have e172 := hI.g 172 rfl
    go_simp
    exact ⟨g2, hI.put (d := 173) (by decide) (by simp) hI.wp⟩
  · rintro a w ⟨g2, hI⟩
    have e173 := hI.g 173 rfl
    go_simp
    refine ⟨trivial, fun h => (by cases h), (hc (n - 1) g2 w hI.wp).mono ?_⟩
    rintro e w' ⟨r, rfl, hg2⟩
    exact ⟨g2, r, hI.put (d := 174) (by decide) (by simp) hg2⟩
  · rintro a w ⟨g2, r, hI⟩
    have e174 := hI.g 174 rfl
    go_simp
    exact ⟨g2, r, hI.put (d := 171) (by decide) (by simp) hI.wp⟩
  · rintro a w ⟨g2, r, hI⟩
    have e171 := hI.g 171 rfl
    go_simp
    exact ⟨g2, r, hI.put (d := 175) (by decide) (by simp) hI.wp⟩
  · rintro a w ⟨g2, r, hI⟩
    have e171 := hI.g 171 rfl
    go_simp
    exact ⟨g2, r, hI.put (d := 176) (by decide) (by simp) hI.wp⟩
  · rintro a w ⟨g2, r, hI⟩
    have e175 := hI.g 175 rfl
    go_simp
    exact ⟨g2, r, hI.put (d := 19) (by decide) (by simp) hI.wp⟩
  · rintro a w ⟨g2, r, hI⟩
    have e176 := hI.g 176 rfl
    go_simp
    exact ⟨g2, r, hI.put (d := 20) (by decide) (by simp) hI.wp⟩
  · rintro a w ⟨g2, r, hI⟩
    exact hQ g2 r a w hI
set_option maxRecDepth 100000 in
set_option maxHeartbeats 4000000 in
theorem kn19 (n : Nat) {G : World → Prop} (hS : Stable G) (r : Nat) (hw : ∀ m w, G w → CallsIn Fence.wide m Try.prog 13 #[] w fun e w' => e = .returned (.bool true) ∧ Below w.heap.size w w') (Q : Exit → Act → World → Prop) (a : Act) (w : World) (h0 : SG [(10, .int .i64 2), (12, .int .i64 2), (14, .int .i64 3), (16, .int .i64 2), (19, .slice (some ⟨r, 0, none⟩) 262144 262144), (20, .int .i64 0)] 203 G a w)
    (hQ : ∀ a w, SG [(0, .bool true)] 203 G a w → Q .normal a w) : (regOf 19 C10).wpIn Fence.wide n Try.prog Q a w := by
  simp only [regOf, C10, Try.f10, Option.getD, Nat.reduceBEq, Bool.false_eq_true, if_true, if_false]
  refine region_sq (fun k_ a w => match k_ with | 0 => SG [(10, .int .i64 2), (12, .int .i64 2), (14, .int .i64 3), (16, .int .i64 2), (19, .slice (some ⟨r, 0, none⟩) 262144 262144), (20, .int .i64 0)] 203 G a w | 1 => SG [(12, .int .i64 2), (14, .int .i64 3), (16, .int .i64 2), (19, .slice (some ⟨r, 0, none⟩) 262144 262144), (20, .int .i64 0), (177, .int .i64 2)] 203 G a w | 2 => SG [(12, .int .i64 2), (14, .int .i64 3), (16, .int .i64 2), (19, .slice (some ⟨r, 0, none⟩) 262144 262144), (20, .int .i64 0), (178, .bool true)] 203 G a w | 3 => SG [(12, .int .i64 2), (14, .int .i64 3), (16, .int .i64 2), (19, .slice (some ⟨r, 0, none⟩) 262144 262144), (20, .int .i64 0), (179, .bool true)] 203 G a w | 4 => SG [(14, .int .i64 3), (16, .int .i64 2), (19, .slice (some ⟨r, 0, none⟩) 262144 262144), (20, .int .i64 0), (179, .bool true), (180, .int .i64 2)] 203 G a w | 5 => SG [(14, .int .i64 3), (16, .int .i64 2), (19, .slice (some ⟨r, 0, none⟩) 262144 262144), (20, .int .i64 0), (179, .bool true), (181, .bool true)] 203 G a w | 6 => SG [(14, .int .i64 3), (16, .int .i64 2), (19, .slice (some ⟨r, 0, none⟩) 262144 262144), (20, .int .i64 0), (182, .bool true)] 203 G a w | 7 => SG [(14, .int .i64 3), (16, .int .i64 2), (19, .slice (some ⟨r, 0, none⟩) 262144 262144), (20, .int .i64 0), (183, .bool true)] 203 G a w | 8 => SG [(16, .int .i64 2), (19, .slice (some ⟨r, 0, none⟩) 262144 262144), (20, .int .i64 0), (183, .bool true), (184, .int .i64 3)] 203 G a w | 9 => SG [(16, .int .i64 2), (19, .slice (some ⟨r, 0, none⟩) 262144 262144), (20, .int .i64 0), (183, .bool true), (185, .bool true)] 203 G a w | 10 => SG [(16, .int .i64 2), (19, .slice (some ⟨r, 0, none⟩) 262144 262144), (20, .int .i64 0), (186, .bool true)] 203 G a w | 11 => SG [(16, .int .i64 2), (19, .slice (some ⟨r, 0, none⟩) 262144 262144), (20, .int .i64 0), (187, .bool true)] 203 G a w | 12 => SG [(19, .slice (some ⟨r, 0, none⟩) 262144 262144), (20, .int .i64 0), (187, .bool true), (188, .int .i64 2)] 203 G a w | 13 => SG [(19, .slice (some ⟨r, 0, none⟩) 262144 262144), (20, .int .i64 0), (187, .bool true), (189, .bool true)] 203 G a w | 14 => SG [(19, .slice (some ⟨r, 0, none⟩) 262144 262144), (20, .int .i64 0), (190, .bool true)] 203 G a w | 15 => SG [(19, .slice (some ⟨r, 0, none⟩) 262144 262144), (20, .int .i64 0), (191, .bool true)] 203 G a w | 16 => SG [(19, .slice (some ⟨r, 0, none⟩) 262144 262144), (191, .bool true), (192, .int .i64 0)] 203 G a w | 17 => SG [(19, .slice (some ⟨r, 0, none⟩) 262144 262144), (191, .bool true), (193, .bool true)] 203 G a w | 18 => SG [(19, .slice (some ⟨r, 0, none⟩) 262144 262144), (194, .bool true)] 203 G a w | 19 => SG [(19, .slice (some ⟨r, 0, none⟩) 262144 262144), (195, .bool true)] 203 G a w | 20 => SG [(195, .bool true), (196, .slice (some ⟨r, 0, none⟩) 262144 262144)] 203 G a w | 21 => SG [(195, .bool true), (197, .int .i64 262144)] 203 G a w | 22 => SG [(195, .bool true), (198, .bool true)] 203 G a w | 23 => SG [(199, .bool true)] 203 G a w | 24 => SG [(200, .bool true)] 203 G a w | 25 => SG [(200, .bool true), (201, .bool true)] 203 G a w | 26 => SG [(202, .bool true)] 203 G a w | _ => SG [(0, .bool true)] 203 G a w) (show SG _ _ G a w from h0) ⟨?_, ?_, ?_, ?_, ?_, ?_, ?_, ?_, ?_, ?_, ?_, ?_, ?_, ?_, ?_, ?_, ?_, ?_, ?_, ?_, ?_, ?_, ?_, ?_, ?_, ?_, ?_, trivial⟩ ?_
  · intro a w hI
    have hI : SG _ _ G a w := hI
    have e10 := hI.g 10 rfl
    go_simp
    exact hI.put (d := 177) (by decide) (by simp) hI.wp
  · intro a w hI
    have hI : SG _ _ G a w := hI
    have e177 := hI.g 177 rfl
    go_simp
    exact hI.put (d := 178) (by decide) (by simp) hI.wp
  · intro a w hI
    have hI : SG _ _ G a w := hI
    have e178 := hI.g 178 rfl
    go_simp
    exact hI.put (d := 179) (by decide) (by simp) hI.wp
  · intro a w hI
    have hI : SG _ _ G a w := hI
    have e12 := hI.g 12 rfl
    have e179 := hI.g 179 rfl
    have f179 := slot_bool e179
    go_simp
    exact hI.put (d := 180) (by decide) (by simp) hI.wp
  · intro a w hI
    have hI : SG _ _ G a w := hI
    have e180 := hI.g 180 rfl
    have e179 := hI.g 179 rfl
    have f179 := slot_bool e179
    go_simp
    exact hI.put (d := 181) (by decide) (by simp) hI.wp
  · intro a w hI
    have hI : SG _ _ G a w := hI
    have e179 := hI.g 179 rfl
    have e181 := hI.g 181 rfl
    go_simp
    exact hI.put (d := 182) (by decide) (by simp) hI.wp
  · intro a w hI
    have hI : SG _ _ G a w := hI
    have e182 := hI.g 182 rfl
    go_simp
    exact hI.put (d := 183) (by decide) (by simp) hI.wp
  · intro a w hI
    have hI : SG _ _ G a w := hI
    have e14 := hI.g 14 rfl
    have e183 := hI.g 183 rfl
    have f183 := slot_bool e183
    go_simp
    exact hI.put (d := 184) (by decide) (by simp) hI.wp
  · intro a w hI
    have hI : SG _ _ G a w := hI
    have e184 := hI.g 184 rfl
    have e183 := hI.g 183 rfl
    have f183 := slot_bool e183
    go_simp
    exact hI.put (d := 185) (by decide) (by simp) hI.wp
  · intro a w hI
    have hI : SG _ _ G a w := hI
    have e183 := hI.g 183 rfl
    have e185 := hI.g 185 rfl
    go_simp
    exact hI.put (d := 186) (by decide) (by simp) hI.wp
  · intro a w hI
    have hI : SG _ _ G a w := hI
    have e186 := hI.g 186 rfl
    go_simp
    exact hI.put (d := 187) (by decide) (by simp) hI.wp
  · intro a w hI
    have hI : SG _ _ G a w := hI
    have e16 := hI.g 16 rfl
    have e187 := hI.g 187 rfl
    have f187 := slot_bool e187
    go_simp
    exact hI.put (d := 188) (by decide) (by simp) hI.wp
  · intro a w hI
    have hI : SG _ _ G a w := hI
    have e188 := hI.g 188 rfl
    have e187 := hI.g 187 rfl
    have f187 := slot_bool e187
    go_simp
    exact hI.put (d := 189) (by decide) (by simp) hI.wp
  · intro a w hI
    have hI : SG _ _ G a w := hI
    have e187 := hI.g 187 rfl
    have e189 := hI.g 189 rfl
    go_simp
    exact hI.put (d := 190) (by decide) (by simp) hI.wp
  · intro a w hI
    have hI : SG _ _ G a w := hI
    have e190 := hI.g 190 rfl
    go_simp
    exact hI.put (d := 191) (by decide) (by simp) hI.wp
  · intro a w hI
    have hI : SG _ _ G a w := hI
    have e20 := hI.g 20 rfl
    have e191 := hI.g 191 rfl
    have f191 := slot_bool e191
    go_simp
    exact hI.put (d := 192) (by decide) (by simp) hI.wp
  · intro a w hI
    have hI : SG _ _ G a w := hI
    have e192 := hI.g 192 rfl
    have e191 := hI.g 191 rfl
    have f191 := slot_bool e191
    go_simp
    exact hI.put (d := 193) (by decide) (by simp) hI.wp
  · intro a w hI
    have hI : SG _ _ G a w := hI
    have e191 := hI.g 191 rfl
    have e193 := hI.g 193 rfl
    go_simp
    exact hI.put (d := 194) (by decide) (by simp) hI.wp
  · intro a w hI
    have hI : SG _ _ G a w := hI
    have e194 := hI.g 194 rfl
    go_simp
    exact hI.put (d := 195) (by decide) (by simp) hI.wp
  · intro a w hI
    have hI : SG _ _ G a w := hI
    have e19 := hI.g 19 rfl
    have e195 := hI.g 195 rfl
    have f195 := slot_bool e195
    go_simp
    exact hI.put (d := 196) (by decide) (by simp) hI.wp
  · intro a w hI
    have hI : SG _ _ G a w := hI
    have e196 := hI.g 196 rfl
    have e195 := hI.g 195 rfl
    have f195 := slot_bool e195
    go_simp
    exact hI.put (d := 197) (by decide) (by simp) hI.wp
  · intro a w hI
    have hI : SG _ _ G a w := hI
    have e197 := hI.g 197 rfl
    have e195 := hI.g 195 rfl
    have f195 := slot_bool e195
    go_simp
    exact hI.put (d := 198) (by decide) (by simp) hI.wp
  · intro a w hI
    have hI : SG _ _ G a w := hI
    have e195 := hI.g 195 rfl
    have e198 := hI.g 198 rfl
    go_simp
    exact hI.put (d := 199) (by decide) (by simp) hI.wp
  · intro a w hI
    have hI : SG _ _ G a w := hI
    have e199 := hI.g 199 rfl
    go_simp
    exact hI.put (d := 200) (by decide) (by simp) hI.wp
  · intro a w hI
    have hI : SG _ _ G a w := hI
    have e200 := hI.g 200 rfl
    have f200 := slot_bool e200
    go_simp
    refine ⟨trivial, fun h => (by cases h), (hw (n - 1) w hI.wp).mono ?_⟩
    rintro e w' ⟨rfl, hb2⟩
    exact hI.put (d := 201) (by decide) (by simp) (hS _ _ hI.wp hb2)
  · intro a w hI
    have hI : SG _ _ G a w := hI
    have e200 := hI.g 200 rfl
    have e201 := hI.g 201 rfl
    go_simp
    exact hI.put (d := 202) (by decide) (by simp) hI.wp
  · intro a w hI
    have hI : SG _ _ G a w := hI
    have e202 := hI.g 202 rfl
    go_simp
    exact hI.put (d := 0) (by decide) (by simp) hI.wp
  · intro a w hI
    have hI : SG _ _ G a w := hI
    exact hQ a w hI
/-! ### GlowKnown -/
noncomputable def rowOf (l : List Nat) : Array Value := (l.map fun (x : Nat) => Value.int .u8 (x : Int)).toArray
def lA (l : List Nat) (j : Nat) : Int := ((l.getD j 0 : Nat) : Int)
section
variable {W0 w : World} {bs : List (Nat × Obj)} {X Y Z N g : Nat}
theorem row_list {l : List Nat} (hl : l.length = N * 2) (h255 : ∀ x ∈ l, x ≤ 255) (hh : Has W0 bs w) (hm : (g, Obj.cells (rowOf l) 32 (0, 0)) ∈ bs) : Row2 w g 0 N (lA l) where
  lt := hh.lt hm
  cell := fun j hj => by
    rw [Nat.zero_add]
    refine hh.cell hm ?_
    have hj' : j < l.length := by omega
    unfold rowOf lA
    simp [hj']
  rng := fun j hj => by
    have hj' : j < l.length := by omega
    have := h255 _ (List.getElem_mem hj')
    unfold lA
    rw [List.getD_eq_getElem?_getD, List.getElem?_eq_getElem hj', Option.getD_some]
    omega
theorem light_list (n : Nat) {l : List Nat} (hX : 1 ≤ X ∧ X ≤ 256) (hY : 1 ≤ Y ∧ Y ≤ 256) (hZ : 1 ≤ Z ∧ Z ≤ 256) (hNe : N = X * Y * Z) (hN : N ≤ 262144) (hl : l.length = N * 2) (h255 : ∀ x ∈ l, x ≤ 255) (hh : Has W0 ((g, Obj.cells (rowOf l) 32 (0, 0)) :: bs) w) :
    CallsIn Fence.wide n Try.prog 14 #[.agg #[.int .i64 X, .int .i64 Y, .int .i64 Z, .slice (some ⟨g, 0, none⟩) N N]] w fun e w' => ∃ r, e = .returned (.tuple #[.slice (some ⟨r, 0, none⟩) N N, .int .i64 0]) ∧
      Has W0 ((r, .cells (pairsV (skyL X Y Z (clA (lA l))) (lampL X Y Z (clA (lA l)) (lmA (lA l))) N N) 37 (0, 0)) :: bs) w' :=
  (light_has n (row_list hl h255 hh List.mem_cons_self) hX hY hZ hNe hN hh).mono fun _ _ ⟨r, h1, h2⟩ => ⟨r, h1, h2.perm (List.Perm.swap _ _ _) |>.tail⟩
theorem made_get {N j : Nat} (hj : j < N * 2) : (madeCells #[.int .u8 0, .int .u8 0] (N * 2))[j]? = some (.int .u8 0) := by
  have : j % 2 = 0 ∨ j % 2 = 1 := by omega
  rcases this with e | e <;> simp [madeCells, hj, e]
theorem light_made (n : Nat) (hX : 1 ≤ X ∧ X ≤ 256) (hY : 1 ≤ Y ∧ Y ≤ 256) (hZ : 1 ≤ Z ∧ Z ≤ 256) (hNe : N = X * Y * Z) (hN : N ≤ 262144) (hh : Has W0 ((g, Obj.cells (madeCells #[.int .u8 0, .int .u8 0] (N * 2)) 32 (0, 0)) :: bs) w) :
    CallsIn Fence.wide n Try.prog 14 #[.agg #[.int .i64 X, .int .i64 Y, .int .i64 Z, .slice (some ⟨g, 0, none⟩) N N]] w fun e w' => ∃ r, e = .returned (.tuple #[.slice (some ⟨r, 0, none⟩) N N, .int .i64 0]) ∧ Has W0 bs w' := by
  have hr : Row2 w g 0 N (fun _ => 0) := {
    lt := hh.lt List.mem_cons_self
    cell := fun j hj => by rw [Nat.zero_add]; exact hh.cell List.mem_cons_self (made_get hj)
    rng := fun j hj => ⟨by decide, by decide⟩ }
  exact (light_has n hr hX hY hZ hNe hN hh).mono fun _ _ ⟨r, h1, h2⟩ => ⟨r, h1, h2.tail.tail⟩
end
theorem known3 : pairsV (skyL 1 3 1 (clA (lA [0, 0, 0, 0, 0, 0]))) (lampL 1 3 1 (clA (lA [0, 0, 0, 0, 0, 0])) (lmA (lA [0, 0, 0, 0, 0, 0]))) 3 3 = rowOf [15, 0, 15, 0, 15, 0] := by kernel_rfl
theorem known6 : pairsV (skyL 3 2 1 (clA (lA [0, 0, 0, 0, 2, 0, 2, 0, 0, 0, 0, 0]))) (lampL 3 2 1 (clA (lA [0, 0, 0, 0, 2, 0, 2, 0, 0, 0, 0, 0])) (lmA (lA [0, 0, 0, 0, 2, 0, 2, 0, 0, 0, 0, 0]))) 6 6 = rowOf [14, 0, 15, 0, 0, 0, 0, 0, 15, 0, 15, 0] := by kernel_rfl
theorem known8 : pairsV (skyL 4 2 1 (clA (lA [11, 3, 0, 0, 0, 0, 0, 0, 2, 0, 2, 0, 2, 0, 2, 0]))) (lampL 4 2 1 (clA (lA [11, 3, 0, 0, 0, 0, 0, 0, 2, 0, 2, 0, 2, 0, 2, 0])) (lmA (lA [11, 3, 0, 0, 0, 0, 0, 0, 2, 0, 2, 0, 2, 0, 2, 0]))) 8 8 = rowOf [0, 3, 0, 2, 0, 1, 0, 0, 0, 0, 0, 0, 0, 0, 0, 0] := by kernel_rfl
theorem bad_has {W0 w : World} {bs : List (Nat × Obj)} (n : Nat) (X Y Z er : Int) (o : Option Addr) (len c : Nat) (he : chk X Y Z len = er) (h0 : er ≠ 0) (hh : Has W0 bs w) :
    CallsIn Fence.wide n Try.prog 14 #[.agg #[.int .i64 X, .int .i64 Y, .int .i64 Z, .slice o len c]] w fun e w' => e = .returned (.tuple #[.slice none 0 0, .int .i64 er]) ∧ Below w.heap.size w w' := by
  subst he
  exact light_bad n X Y Z o len c w h0
theorem C10_eq : C10 = .seq (regOf 0 C10) (.seq (regOf 1 C10) (.seq (regOf 2 C10) (.seq (.seq (regOf 3 C10) (.cond (.tmp 45) (.seq (regOf 4 C10) .ret) .skip)) (.seq (regOf 5 C10) (.seq (.seq (regOf 6 C10) (.cond (.tmp 92) (.seq (regOf 7 C10) .ret) .skip)) (.seq (regOf 8 C10) (.seq (.seq (regOf 9 C10) (.cond (.tmp 141) (.seq (regOf 10 C10) .ret) .skip)) (.seq (regOf 11 C10) (.seq (regOf 12 C10) (.seq (regOf 13 C10) (.seq (regOf 14 C10) (.seq (regOf 15 C10)
    (.seq (.seq (regOf 16 C10) (.cond (.tmp 170) (.seq (regOf 17 C10) .ret) .skip)) (.seq (regOf 18 C10) (.seq (regOf 19 C10) .ret))))))))))))))) := by kernel_rfl
set_option maxHeartbeats 1000000 in
theorem known_in (n : Nat) (W0 : World) : CallsIn Fence.wide n Try.prog 10 #[] W0 fun e w' => e = .returned (.bool true) ∧ Below W0.heap.size W0 w' := by
  refine callsIn_of_wp Try.func10 rfl trivial ?_
  show C10.wpIn _ _ _ _ _ _
  rw [C10_eq]
  refine wpIn_seq (kn0 n W0 _ _ ⟨by simp [Try.ntmps10], rfl, by simp [Try.ntmps10], rfl⟩ ?_)
  intro a1 hs1
  refine wpIn_seq (kn1 n W0 _ a1 W0 (hs1.sg (Has.start W0)) ?_)
  intro s1 s2 a2 w2 hs2
  have p0 : ∀ {bs w}, Has W0 bs w → (s1, o2 32 0 0) ∈ bs → w.cell? ⟨s1, 0, none⟩ = some (.int .u8 0) ∧ w.cell? ⟨s1, 1, none⟩ = some (.int .u8 0) := fun hh hm => ⟨hh.cell hm rfl, hh.cell hm rfl⟩
  have p2 : ∀ {bs w}, Has W0 bs w → (s2, o2 32 2 0) ∈ bs → w.cell? ⟨s2, 0, none⟩ = some (.int .u8 2) ∧ w.cell? ⟨s2, 1, none⟩ = some (.int .u8 0) := fun hh hm => ⟨hh.cell hm rfl, hh.cell hm rfl⟩
  have m1 : (s1, o2 32 0 0) ∈ [(s2, o2 32 2 0), (s1, o2 32 0 0)] := by simp
  have m2 : (s2, o2 32 2 0) ∈ [(s2, o2 32 2 0), (s1, o2 32 0 0)] := by simp
  have cr : ∀ {l r bs w}, Has W0 ((r, .cells (rowOf l) 37 (0, 0)) :: bs) w → ∀ {j} {v : Int}, (rowOf l)[j]? = some (.int .u8 v) → w.cell? ⟨r, j, none⟩ = some (.int .u8 v) := fun hh _ _ hv => hh.cell List.mem_cons_self hv
  refine wpIn_seq (kn2 n s1 s2 (fun w hh => (p0 hh m1).1) (fun w hh => (p0 hh m1).2) (fun g2 => Has W0 [(g2, .cells (rowOf [0, 0, 0, 0, 0, 0]) 32 (0, 0)), (s2, o2 32 2 0), (s1, o2 32 0 0)]) (fun w hh => hh.alloc (.cells (rowOf [0, 0, 0, 0, 0, 0]) 32)) (fun _ r => Has W0 [(r, .cells (rowOf [15, 0, 15, 0, 15, 0]) 37 (0, 0)), (s2, o2 32 2 0), (s1, o2 32 0 0)])
    (fun m g2 w hh => by rw [← known3]; exact light_list m (X := 1) (Y := 3) (Z := 1) (N := 3) (by decide) (by decide) (by decide) rfl (by decide) rfl (by decide) hh) _ a2 w2 hs2 ?_)
  intro _ r a3 w3 hs3
  have hG3 := hs3.wp
  refine wpIn_seq (wpIn_seq (kn3 n w3 s1 s2 r (cr hG3 rfl) (cr hG3 rfl) _ a3 hs3.sr ?_))
  intro a4 hs4
  refine wpIn_cond (t := false) (by rw [eval_tmp]; exact hs4.kn (45, .bool false) (by simp)) (wpIn_skip ?_)
  refine wpIn_seq (kn5 n s1 s2 (fun w hh => (p0 hh m1).1) (fun w hh => (p0 hh m1).2) (fun w hh => (p2 hh m2).1) (fun w hh => (p2 hh m2).2) (fun g2 => Has W0 [(g2, .cells (rowOf [0, 0, 0, 0, 2, 0, 2, 0, 0, 0, 0, 0]) 32 (0, 0)), (s2, o2 32 2 0), (s1, o2 32 0 0)]) (fun w hh => hh.alloc (.cells (rowOf [0, 0, 0, 0, 2, 0, 2, 0, 0, 0, 0, 0]) 32)) (fun _ r => Has W0 [(r, .cells (rowOf [14, 0, 15, 0, 0, 0, 0, 0, 15, 0, 15, 0]) 37 (0, 0)), (s2, o2 32 2 0), (s1, o2 32 0 0)])
    (fun m g2 w hh => by rw [← known6]; exact light_list m (X := 3) (Y := 2) (Z := 1) (N := 6) (by decide) (by decide) (by decide) rfl (by decide) rfl (by decide) hh) _ a4 w3 ((hs4.sub (by simp)).sg hG3.tail) ?_)
  intro _ r a5 w5 hs5
  have hG5 := hs5.wp
  refine wpIn_seq (wpIn_seq (kn6 n w5 s1 s2 r (cr hG5 rfl) (cr hG5 rfl) (cr hG5 rfl) (cr hG5 rfl) (cr hG5 rfl) (cr hG5 rfl) (cr hG5 rfl) (cr hG5 rfl) _ a5 hs5.sr ?_))
  intro a6 hs6
  refine wpIn_cond (t := false) (by rw [eval_tmp]; exact hs6.kn (92, .bool false) (by simp)) (wpIn_skip ?_)
  refine wpIn_seq (kn8 n s1 s2 (fun w hh => (p0 hh m1).1) (fun w hh => (p0 hh m1).2) (fun w hh => (p2 hh m2).1) (fun w hh => (p2 hh m2).2) (fun g2 => Has W0 [(g2, .cells (rowOf [11, 3, 0, 0, 0, 0, 0, 0, 2, 0, 2, 0, 2, 0, 2, 0]) 32 (0, 0)), (s2, o2 32 2 0), (s1, o2 32 0 0)]) (fun w hh => hh.alloc (.cells (rowOf [11, 3, 0, 0, 0, 0, 0, 0, 2, 0, 2, 0, 2, 0, 2, 0]) 32)) (fun _ r => Has W0 [(r, .cells (rowOf [0, 3, 0, 2, 0, 1, 0, 0, 0, 0, 0, 0, 0, 0, 0, 0]) 37 (0, 0)), (s2, o2 32 2 0), (s1, o2 32 0 0)])
    (fun m g2 w hh => by rw [← known8]; exact light_list m (X := 4) (Y := 2) (Z := 1) (N := 8) (by decide) (by decide) (by decide) rfl (by decide) rfl (by decide) hh) _ a6 w5 ((hs6.sub (by simp)).sg hG5.tail) ?_)
  intro _ r a7 w7 hs7
  have hG7 := hs7.wp
  refine wpIn_seq (wpIn_seq (kn9 n w7 r (cr hG7 rfl) (cr hG7 rfl) (cr hG7 rfl) (cr hG7 rfl) (cr hG7 rfl) (cr hG7 rfl) (cr hG7 rfl) (cr hG7 rfl) _ a7 hs7.sr ?_))
  intro a8 hs8
  refine wpIn_cond (t := false) (by rw [eval_tmp]; exact hs8.kn (141, .bool false) (by simp)) (wpIn_skip ?_)
  have hB : Has W0 [] w7 := hG7.tail.tail.tail
  refine wpIn_seq (kn11 n (Has.stable _ _) (fun m w hh => bad_has m 0 1 1 2 none 0 0 (by decide) (by decide) hh) _ a8 w7 ((hs8.sub (by simp)).sg hB) ?_)
  intro a9 w9 hs9
  refine wpIn_seq (kn12 n (Has.stable _ _) (fun m w hh => bad_has m 1 1 1 2 none 0 0 (by decide) (by decide) hh) _ a9 w9 hs9 ?_)
  intro a10 w10 hs10
  refine wpIn_seq (kn13 n (Has.stable _ _) (fun m w hh => bad_has m 256 256 5 3 none 0 0 (by decide) (by decide) hh) _ a10 w10 hs10 ?_)
  intro a11 w11 hs11
  refine wpIn_seq (kn14 n (fun _ => Has W0 []) (fun w hh => (hh.alloc _).tail) (fun _ _ => Has W0 []) (fun m g2 w hh => (bad_has m 257 1 1 2 (some ⟨g2, 0, none⟩) 257 257 (by decide) (by decide) hh).mono fun _ _ ⟨h1, h2⟩ => ⟨0, h1, hh.below h2⟩) _ a11 w11 hs11 ?_)
  intro _ _ a12 w12 hs12
  refine wpIn_seq (kn15 n (fun _ => Has W0 []) (fun w hh => (hh.alloc _).tail) (fun _ _ => Has W0 []) (fun m g2 w hh => (bad_has m 1 1 1 2 (some ⟨g2, 0, none⟩) 2 2 (by decide) (by decide) hh).mono fun _ _ ⟨h1, h2⟩ => ⟨0, h1, hh.below h2⟩) _ a12 w12 hs12 ?_)
  intro _ _ a13 w13 hs13
  have hG13 := hs13.wp
  refine wpIn_seq (wpIn_seq (kn16 n w13 _ a13 hs13.sr ?_))
  intro a14 hs14
  refine wpIn_cond (t := false) (by rw [eval_tmp]; exact hs14.kn (170, .bool false) (by simp)) (wpIn_skip ?_)
  refine wpIn_seq (kn18 n (fun g2 => Has W0 [(g2, .cells (madeCells #[.int .u8 0, .int .u8 0] (262144 * 2)) 32 (0, 0))]) (fun w hh => hh.alloc _) (fun _ _ => Has W0 []) (fun m g2 w hh => light_made m (X := 64) (Y := 64) (Z := 64) (N := 262144) (by decide) (by decide) (by decide) rfl (by decide) hh) _ a14 w13 ((hs14.sub (by simp)).sg hG13) ?_)
  intro _ r a15 w15 hs15
  refine wpIn_seq (kn19 n (Has.stable _ _) r (fun m w _ => works_in m w) _ a15 w15 hs15 ?_)
  intro a16 w16 h
  exact wpIn_ret ⟨h.defers, _, results_tmp (t := 0) rfl _ _ _, by rw [Array.getD_eq_getD_getElem?, h.kn (0, .bool true) (by simp)], h.wp.bel⟩
end Go.Proofs.Ytmgiabehooghcaa
