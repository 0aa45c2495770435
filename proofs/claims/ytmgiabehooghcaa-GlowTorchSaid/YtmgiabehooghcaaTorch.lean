/- Glow: the walk of a law. -/
import Derived.RangeFuncNested
import Derived.RangeFuncBound
import Derived.RangeFuncCalls
import Derived.RangeFuncLeaves
import Derived.Shelf.Abstract
import Derived.Shelf.RegionOpen
import Derived.WalkKit
import Derived.OwnWalkIn
import Derived.TacticsInMore
import Derived.LoopNIn
import Derived.LoopIn
import Derived.Lib.Hide
import Derived.IntWalk
import Derived.Maps.AppendAt
import Derived.Test.YtmgiabehooghcaaKc
import Derived.Test.YtmgiabehooghcaaGin
import Derived.Test.YtmgiabehooghcaaH5
set_option linter.unusedVariables false
set_option linter.unusedSimpArgs false
namespace Go.Proofs.Ytmgiabehooghcaa
open Go.RowKit Go.Shelf
attribute [local go_sem] Oper.semAt_some

/-! ### GlowTorch: its parts -/
noncomputable def C6 : Code := Try.f6.body.getD .skip
theorem info32 : (Try.prog.info? 32).map (fun i => (i.zero, i.size, i.bytes)) = some (some (.agg #[.int .u8 0, .int .u8 0]), 2, 2) := by kernel_rfl
theorem under22 : Try.prog.underlying 22 = some (.slice 32) := by kernel_rfl
theorem cell4_new (W : World) (t : TypeId) (a b c d : Value) : ((W.alloc (.cells #[a, b, c, d] t)).cell? ⟨W.heap.size, 0, none⟩ = some a ∧ (W.alloc (.cells #[a, b, c, d] t)).cell? ⟨W.heap.size, 1, none⟩ = some b ∧ (W.alloc (.cells #[a, b, c, d] t)).cell? ⟨W.heap.size, 2, none⟩ = some c ∧ (W.alloc (.cells #[a, b, c, d] t)).cell? ⟨W.heap.size, 3, none⟩ = some d) ∧
    (W.alloc (.cells #[a, b, c, d] t)).frozen? ⟨W.heap.size, 0, none⟩ = false ∧ (W.alloc (.cells #[a, b, c, d] t)).frozen? ⟨W.heap.size, 1, none⟩ = false ∧ (W.alloc (.cells #[a, b, c, d] t)).frozen? ⟨W.heap.size, 2, none⟩ = false ∧ (W.alloc (.cells #[a, b, c, d] t)).frozen? ⟨W.heap.size, 3, none⟩ = false := by
  have hn := World.alloc_heap_new W (.cells #[a, b, c, d] t)
  unfold World.cell? World.frozen?
  rw [hn]
  exact ⟨⟨rfl, rfl, rfl, rfl⟩, rfl, rfl, rfl, rfl⟩
theorem alloc_set4 (W : World) (t : TypeId) (a b c d a' b' c' d' : Value) : ((((W.alloc (.cells #[a, b, c, d] t)).setCell ⟨W.heap.size, 0, none⟩ a').setCell ⟨W.heap.size, 1, none⟩ b').setCell ⟨W.heap.size, 2, none⟩ c').setCell ⟨W.heap.size, 3, none⟩ d' = W.alloc (.cells #[a', b', c', d'] t) := by
  have e : (((((W.alloc (.cells #[a, b, c, d] t)).setCell ⟨W.heap.size, 0, none⟩ a').setCell ⟨W.heap.size, 1, none⟩ b').setCell ⟨W.heap.size, 2, none⟩ c').setCell ⟨W.heap.size, 3, none⟩ d').heap = (W.alloc (.cells #[a', b', c', d'] t)).heap := by
    simp only [World.setCell, World.alloc]
    apply Array.ext
    · simp only [Array.size_modify, Array.size_push]
    · intro i h1 h2
      simp only [Array.getElem_modify, Array.getElem_push]
      simp only [Array.size_push] at h2
      split
      · rw [dif_neg (by omega), dif_neg (by omega)]; rfl
      · rw [dif_pos (by omega), dif_pos (by omega)]
  simp only [World.setCell, World.alloc] at e ⊢
  rw [e]
set_option maxRecDepth 100000 in
set_option maxHeartbeats 4000000 in
theorem tq0 (n : Nat) (W : World) (a0 a1 a2 u v : Nat) (Q : Exit → Act → World → Prop) (a : Act) (h0 : SR [(0, .agg #[.int .u8 a0, .int .u8 a1, .int .u8 a2]), (1, .int .u16 u), (2, .int .u8 v)] 139 [] W a W)
    (hQ : ∀ a, SR [(1, .int .u16 u), (2, .int .u8 v), (3, .pointer (some ⟨W.heap.size, 0, none⟩))] 139 [] (W.alloc (.cells #[.int .u8 a0, .int .u8 a1, .int .u8 a2] 42)) a (W.alloc (.cells #[.int .u8 a0, .int .u8 a1, .int .u8 a2] 42)) → Q .normal a (W.alloc (.cells #[.int .u8 a0, .int .u8 a1, .int .u8 a2] 42))) : (regOf 0 C6).wpIn Fence.wide n Try.prog Q a W := by
  simp only [regOf, C6, Try.f6, Option.getD, Nat.reduceBEq, Bool.false_eq_true, if_true, if_false]
  refine region_sq (fun k_ a w => match k_ with | 0 => SR [(0, .agg #[.int .u8 a0, .int .u8 a1, .int .u8 a2]), (1, .int .u16 u), (2, .int .u8 v)] 139 [] (W) a w | 1 => SR [(1, .int .u16 u), (2, .int .u8 v), (3, .pointer (some ⟨W.heap.size, 0, none⟩))] 139 [] (W.alloc (.cells #[.int .u8 a0, .int .u8 a1, .int .u8 a2] 42)) a w | _ => SR [(1, .int .u16 u), (2, .int .u8 v), (3, .pointer (some ⟨W.heap.size, 0, none⟩))] 139 [] (W.alloc (.cells #[.int .u8 a0, .int .u8 a1, .int .u8 a2] 42)) a w) (show SR _ _ _ _ a W from h0) ⟨?_, ?_, trivial⟩ ?_
  · intro a w hI
    have hI : SR _ _ _ _ a w := hI
    have e0 := hI.g 0 rfl
    have hw : w = W := hI.wp
    subst hw
    go_simp
    exact hI.put (d := 3) (by decide) (by simp)
  · intro a w hI
    have hI : SR _ _ _ _ a w := hI
    obtain rfl := hI.wp
    go_simp
    exact hI.put (d := 6) (by decide) (by simp)
  · intro a w hI
    have hI : SR _ _ _ _ a w := hI
    obtain rfl := hI.wp
    exact hQ a hI
set_option maxRecDepth 100000 in
set_option maxHeartbeats 4000000 in
theorem tq1 (n : Nat) (W : World) (S u v a0 a1 a2 x0 x1 x2 X Y Z : Nat) (r0 : Int.tmod (a0 : Int) 16 = (x0 : Int)) (q0 : IntKind.i64.wrap (x0 : Int) = (x0 : Int)) (t0 : IntKind.i64.wrap (1 + (x0 : Int)) = (X : Int)) (r1 : Int.tmod (a1 : Int) 16 = (x1 : Int)) (q1 : IntKind.i64.wrap (x1 : Int) = (x1 : Int)) (t1 : IntKind.i64.wrap (1 + (x1 : Int)) = (Y : Int)) (r2 : Int.tmod (a2 : Int) 16 = (x2 : Int)) (q2 : IntKind.i64.wrap (x2 : Int) = (x2 : Int)) (t2 : IntKind.i64.wrap (1 + (x2 : Int)) = (Z : Int))  (s0 : W.cell? ⟨S, 0, none⟩ = some (.int .u8 a0)) (s1 : W.cell? ⟨S, 1, none⟩ = some (.int .u8 a1)) (s2 : W.cell? ⟨S, 2, none⟩ = some (.int .u8 a2)) (Q : Exit → Act → World → Prop) (a : Act) (h0 : SR [(1, .int .u16 u), (2, .int .u8 v), (3, .pointer (some ⟨S, 0, none⟩))] 139 [] W a W)
    (hQ : ∀ a, SR [(1, .int .u16 u), (2, .int .u8 v), (7, .pointer (some ⟨W.heap.size, 0, none⟩))] 139 [] (W.alloc (.cells #[.int .i64 X, .int .i64 Y, .int .i64 Z, .slice none 0 0] 24)) a (W.alloc (.cells #[.int .i64 X, .int .i64 Y, .int .i64 Z, .slice none 0 0] 24)) → Q .normal a (W.alloc (.cells #[.int .i64 X, .int .i64 Y, .int .i64 Z, .slice none 0 0] 24))) : (regOf 1 C6).wpIn Fence.wide n Try.prog Q a W := by
  simp only [regOf, C6, Try.f6, Option.getD, Nat.reduceBEq, Bool.false_eq_true, if_true, if_false]
  refine region_sq (fun k_ a w => match k_ with | 0 => SR [(1, .int .u16 u), (2, .int .u8 v), (3, .pointer (some ⟨S, 0, none⟩))] 139 [] (W) a w | 1 => SR [(1, .int .u16 u), (2, .int .u8 v), (3, .pointer (some ⟨S, 0, none⟩)), (14, .pointer (some ⟨S, 0, none⟩))] 139 [] (W) a w | 2 => SR [(1, .int .u16 u), (2, .int .u8 v), (3, .pointer (some ⟨S, 0, none⟩)), (15, .int .u8 a0)] 139 [] (W) a w | 3 => SR [(1, .int .u16 u), (2, .int .u8 v), (3, .pointer (some ⟨S, 0, none⟩)), (16, .int .u8 x0)] 139 [] (W) a w | 4 => SR [(1, .int .u16 u), (2, .int .u8 v), (3, .pointer (some ⟨S, 0, none⟩)), (17, .int .i64 x0)] 139 [] (W) a w | 5 => SR [(1, .int .u16 u), (2, .int .u8 v), (3, .pointer (some ⟨S, 0, none⟩)), (18, .int .i64 X)] 139 [] (W) a w | 6 => SR [(1, .int .u16 u), (2, .int .u8 v), (3, .pointer (some ⟨S, 0, none⟩)), (18, .int .i64 X), (19, .pointer (some ⟨S, 1, none⟩))] 139 [] (W) a w | 7 => SR [(1, .int .u16 u), (2, .int .u8 v), (3, .pointer (some ⟨S, 0, none⟩)), (18, .int .i64 X), (20, .int .u8 a1)] 139 [] (W) a w | 8 => SR [(1, .int .u16 u), (2, .int .u8 v), (3, .pointer (some ⟨S, 0, none⟩)), (18, .int .i64 X), (21, .int .u8 x1)] 139 [] (W) a w | 9 => SR [(1, .int .u16 u), (2, .int .u8 v), (3, .pointer (some ⟨S, 0, none⟩)), (18, .int .i64 X), (22, .int .i64 x1)] 139 [] (W) a w | 10 => SR [(1, .int .u16 u), (2, .int .u8 v), (3, .pointer (some ⟨S, 0, none⟩)), (18, .int .i64 X), (23, .int .i64 Y)] 139 [] (W) a w | 11 => SR [(1, .int .u16 u), (2, .int .u8 v), (18, .int .i64 X), (23, .int .i64 Y), (24, .pointer (some ⟨S, 2, none⟩))] 139 [] (W) a w | 12 => SR [(1, .int .u16 u), (2, .int .u8 v), (18, .int .i64 X), (23, .int .i64 Y), (25, .int .u8 a2)] 139 [] (W) a w | 13 => SR [(1, .int .u16 u), (2, .int .u8 v), (18, .int .i64 X), (23, .int .i64 Y), (26, .int .u8 x2)] 139 [] (W) a w | 14 => SR [(1, .int .u16 u), (2, .int .u8 v), (18, .int .i64 X), (23, .int .i64 Y), (27, .int .i64 x2)] 139 [] (W) a w | 15 => SR [(1, .int .u16 u), (2, .int .u8 v), (18, .int .i64 X), (23, .int .i64 Y), (28, .int .i64 Z)] 139 [] (W) a w | 16 => SR [(1, .int .u16 u), (2, .int .u8 v), (29, .agg #[.int .i64 X, .int .i64 Y, .int .i64 Z, .slice none 0 0])] 139 [] (W) a w | 17 => SR [(1, .int .u16 u), (2, .int .u8 v), (29, .agg #[.int .i64 X, .int .i64 Y, .int .i64 Z, .slice none 0 0]), (7, .pointer (some ⟨W.heap.size, 0, none⟩))] 139 [] (W.alloc (.cells #[.int .i64 0, .int .i64 0, .int .i64 0, .slice none 0 0] 24)) a w | _ => SR [(1, .int .u16 u), (2, .int .u8 v), (7, .pointer (some ⟨W.heap.size, 0, none⟩))] 139 [] (W.alloc (.cells #[.int .i64 X, .int .i64 Y, .int .i64 Z, .slice none 0 0] 24)) a w) (show SR _ _ _ _ a W from h0) ⟨?_, ?_, ?_, ?_, ?_, ?_, ?_, ?_, ?_, ?_, ?_, ?_, ?_, ?_, ?_, ?_, ?_, ?_, trivial⟩ ?_
  · intro a w hI
    have hI : SR _ _ _ _ a w := hI
    have e3 := hI.g 3 rfl
    have hw : w = W := hI.wp
    subst hw
    go_simp
    exact hI.put (d := 14) (by decide) (by simp)
  · intro a w hI
    have hI : SR _ _ _ _ a w := hI
    have e14 := hI.g 14 rfl
    have hw : w = W := hI.wp
    subst hw
    go_simp
    exact hI.put (d := 15) (by decide) (by simp)
  · intro a w hI
    have hI : SR _ _ _ _ a w := hI
    have e15 := hI.g 15 rfl
    have hw : w = W := hI.wp
    subst hw
    go_simp
    exact hI.put (d := 16) (by decide) (by simp)
  · intro a w hI
    have hI : SR _ _ _ _ a w := hI
    have e16 := hI.g 16 rfl
    have hw : w = W := hI.wp
    subst hw
    go_simp
    exact hI.put (d := 17) (by decide) (by simp)
  · intro a w hI
    have hI : SR _ _ _ _ a w := hI
    have e17 := hI.g 17 rfl
    have hw : w = W := hI.wp
    subst hw
    go_simp
    exact hI.put (d := 18) (by decide) (by simp)
  · intro a w hI
    have hI : SR _ _ _ _ a w := hI
    have e3 := hI.g 3 rfl
    have hw : w = W := hI.wp
    subst hw
    go_simp
    exact hI.put (d := 19) (by decide) (by simp)
  · intro a w hI
    have hI : SR _ _ _ _ a w := hI
    have e19 := hI.g 19 rfl
    have hw : w = W := hI.wp
    subst hw
    go_simp
    exact hI.put (d := 20) (by decide) (by simp)
  · intro a w hI
    have hI : SR _ _ _ _ a w := hI
    have e20 := hI.g 20 rfl
    have hw : w = W := hI.wp
    subst hw
    go_simp
    exact hI.put (d := 21) (by decide) (by simp)
  · intro a w hI
    have hI : SR _ _ _ _ a w := hI
    have e21 := hI.g 21 rfl
    have hw : w = W := hI.wp
    subst hw
    go_simp
    exact hI.put (d := 22) (by decide) (by simp)
  · intro a w hI
    have hI : SR _ _ _ _ a w := hI
    have e22 := hI.g 22 rfl
    have hw : w = W := hI.wp
    subst hw
    go_simp
    exact hI.put (d := 23) (by decide) (by simp)
  · intro a w hI
    have hI : SR _ _ _ _ a w := hI
    have e3 := hI.g 3 rfl
    have hw : w = W := hI.wp
    subst hw
    go_simp
    exact hI.put (d := 24) (by decide) (by simp)
  · intro a w hI
    have hI : SR _ _ _ _ a w := hI
    have e24 := hI.g 24 rfl
    have hw : w = W := hI.wp
    subst hw
    go_simp
    exact hI.put (d := 25) (by decide) (by simp)
  · intro a w hI
    have hI : SR _ _ _ _ a w := hI
    have e25 := hI.g 25 rfl
    have hw : w = W := hI.wp
    subst hw
    go_simp
    exact hI.put (d := 26) (by decide) (by simp)
  · intro a w hI
    have hI : SR _ _ _ _ a w := hI
    have e26 := hI.g 26 rfl
    have hw : w = W := hI.wp
    subst hw
    go_simp
    exact hI.put (d := 27) (by decide) (by simp)
  · intro a w hI
    have hI : SR _ _ _ _ a w := hI
    have e27 := hI.g 27 rfl
    have hw : w = W := hI.wp
    subst hw
    go_simp
    exact hI.put (d := 28) (by decide) (by simp)
  · intro a w hI
    have hI : SR _ _ _ _ a w := hI
    have e18 := hI.g 18 rfl
    have e23 := hI.g 23 rfl
    have e28 := hI.g 28 rfl
    have hw : w = W := hI.wp
    subst hw
    go_simp
    exact hI.put (d := 29) (by decide) (by simp)
  · intro a w hI
    have hI : SR _ _ _ _ a w := hI
    have hw : w = W := hI.wp
    subst hw
    go_simp
    exact hI.put (d := 7) (by decide) (by simp)
  · intro a w hI
    have hI : SR _ _ _ _ a w := hI
    have e7 := hI.g 7 rfl
    have e29 := hI.g 29 rfl
    obtain rfl := hI.wp
    obtain ⟨⟨hn0, hn1, hn2, hn3⟩, hn4, hn5, hn6, hn7⟩ := cell4_new W 24 (.int .i64 0) (.int .i64 0) (.int .i64 0) (.slice none 0 0)
    have hn8 := alloc_set4 W 24 (.int .i64 0) (.int .i64 0) (.int .i64 0) (.slice none 0 0) (.int .i64 X) (.int .i64 Y) (.int .i64 Z) (.slice none 0 0)
    go_simp
    exact hI.none.sub (by intro p hp; simp only [List.mem_cons, List.not_mem_nil, or_false] at hp ⊢; rcases hp with h | h | h <;> simp [h])
  · intro a w hI
    have hI : SR _ _ _ _ a w := hI
    obtain rfl := hI.wp
    exact hQ a hI
set_option maxRecDepth 100000 in
set_option maxHeartbeats 4000000 in
theorem tq2 (n : Nat) {G : World → Prop} (B u v X Y Z p N : Nat) (h1 : IntKind.i64.wrap ((X : Int) * Y) = (p : Int)) (h2 : IntKind.i64.wrap ((p : Int) * Z) = (N : Int)) (c0 : ∀ w, G w → w.cell? ⟨B, 0, none⟩ = some (.int .i64 X)) (c1 : ∀ w, G w → w.cell? ⟨B, 1, none⟩ = some (.int .i64 Y)) (c2_ : ∀ w, G w → w.cell? ⟨B, 2, none⟩ = some (.int .i64 Z)) (hN2 : N ≤ 262144) (G1 : Nat → World → Prop) (hst : ∀ w, G w → G1 w.heap.size (w.alloc (.cells (madeCells #[.int .u8 0, .int .u8 0] (N * 2)) 32))) (G2 : Nat → World → Prop) (cw : ∀ g2 w, G1 g2 w → ∃ v, w.cell? ⟨B, 3, none⟩ = some v) (fw : ∀ g2 w, G1 g2 w → w.frozen? ⟨B, 3, none⟩ = false) (hst2 : ∀ g2 w, G1 g2 w → G2 g2 (w.setCell ⟨B, 3, none⟩ (.slice (some ⟨g2, 0, none⟩) N N))) (Q : Exit → Act → World → Prop) (a : Act) (w : World) (h0 : SG [(1, .int .u16 u), (2, .int .u8 v), (7, .pointer (some ⟨B, 0, none⟩))] 139 G a w)
    (hQ : ∀ g2 a w, SG [(1, .int .u16 u), (2, .int .u8 v), (7, .pointer (some ⟨B, 0, none⟩))] 139 (G2 g2) a w → Q .normal a w) : (regOf 2 C6).wpIn Fence.wide n Try.prog Q a w := by
  obtain ⟨i0, hi, hz0, hz1, hz2⟩ := info_parts info32
  simp only [regOf, C6, Try.f6, Option.getD, Nat.reduceBEq, Bool.false_eq_true, if_true, if_false]
  refine region_sq (fun k_ a w => match k_ with | 0 => SG [(1, .int .u16 u), (2, .int .u8 v), (7, .pointer (some ⟨B, 0, none⟩))] 139 G a w | 1 => SG [(1, .int .u16 u), (2, .int .u8 v), (7, .pointer (some ⟨B, 0, none⟩)), (30, .pointer (some ⟨B, 0, none⟩))] 139 G a w | 2 => SG [(1, .int .u16 u), (2, .int .u8 v), (7, .pointer (some ⟨B, 0, none⟩)), (31, .int .i64 X)] 139 G a w | 3 => SG [(1, .int .u16 u), (2, .int .u8 v), (7, .pointer (some ⟨B, 0, none⟩)), (31, .int .i64 X), (32, .pointer (some ⟨B, 1, none⟩))] 139 G a w | 4 => SG [(1, .int .u16 u), (2, .int .u8 v), (7, .pointer (some ⟨B, 0, none⟩)), (31, .int .i64 X), (33, .int .i64 Y)] 139 G a w | 5 => SG [(1, .int .u16 u), (2, .int .u8 v), (7, .pointer (some ⟨B, 0, none⟩)), (34, .int .i64 p)] 139 G a w | 6 => SG [(1, .int .u16 u), (2, .int .u8 v), (7, .pointer (some ⟨B, 0, none⟩)), (34, .int .i64 p), (35, .pointer (some ⟨B, 2, none⟩))] 139 G a w | 7 => SG [(1, .int .u16 u), (2, .int .u8 v), (7, .pointer (some ⟨B, 0, none⟩)), (34, .int .i64 p), (36, .int .i64 Z)] 139 G a w | 8 => SG [(1, .int .u16 u), (2, .int .u8 v), (7, .pointer (some ⟨B, 0, none⟩)), (37, .int .i64 N)] 139 G a w | 9 => ∃ g2, SG [(1, .int .u16 u), (2, .int .u8 v), (7, .pointer (some ⟨B, 0, none⟩)), (38, .slice (some ⟨g2, 0, none⟩) N N)] 139 (G1 g2) a w | 10 => ∃ g2, SG [(1, .int .u16 u), (2, .int .u8 v), (7, .pointer (some ⟨B, 0, none⟩)), (38, .slice (some ⟨g2, 0, none⟩) N N), (39, .pointer (some ⟨B, 3, none⟩))] 139 (G1 g2) a w | _ => ∃ g2, SG [(1, .int .u16 u), (2, .int .u8 v), (7, .pointer (some ⟨B, 0, none⟩))] 139 (G2 g2) a w) (show SG _ _ G a w from h0) ⟨?_, ?_, ?_, ?_, ?_, ?_, ?_, ?_, ?_, ?_, ?_, trivial⟩ ?_
  · intro a w hI
    have hI : SG _ _ G a w := hI
    have e7 := hI.g 7 rfl
    go_simp
    exact hI.put (d := 30) (by decide) (by simp) hI.wp
  · intro a w hI
    have hI : SG _ _ G a w := hI
    have e30 := hI.g 30 rfl
    have cc0 := c0 w hI.wp
    go_simp
    exact hI.put (d := 31) (by decide) (by simp) hI.wp
  · intro a w hI
    have hI : SG _ _ G a w := hI
    have e7 := hI.g 7 rfl
    go_simp
    exact hI.put (d := 32) (by decide) (by simp) hI.wp
  · intro a w hI
    have hI : SG _ _ G a w := hI
    have e32 := hI.g 32 rfl
    have cc0 := c1 w hI.wp
    go_simp
    exact hI.put (d := 33) (by decide) (by simp) hI.wp
  · intro a w hI
    have hI : SG _ _ G a w := hI
    have e31 := hI.g 31 rfl
    have e33 := hI.g 33 rfl
    go_simp
    exact hI.put (d := 34) (by decide) (by simp) hI.wp
  · intro a w hI
    have hI : SG _ _ G a w := hI
    have e7 := hI.g 7 rfl
    go_simp
    exact hI.put (d := 35) (by decide) (by simp) hI.wp
  · intro a w hI
    have hI : SG _ _ G a w := hI
    have e35 := hI.g 35 rfl
    have cc0 := c2_ w hI.wp
    go_simp
    exact hI.put (d := 36) (by decide) (by simp) hI.wp
  · intro a w hI
    have hI : SG _ _ G a w := hI
    have e34 := hI.g 34 rfl
    have e36 := hI.g 36 rfl
    go_simp
    exact hI.put (d := 37) (by decide) (by simp) hI.wp
  · intro a w hI
    have hI : SG _ _ G a w := hI
    have e37 := hI.g 37 rfl
    have hmk := run_make (P := Try.prog) w 22 32 i0 (.agg #[.int .u8 0, .int .u8 0]) under22 hi hz0 .i64 .i64 N N (by omega) (Int.le_refl _) (by rw [hz2]; omega) (by omega)
    rw [Int.toNat_natCast, hz1] at hmk
    replace hmk : (Instr.makeSlice 22 (.int .i64 N) (.int .i64 N)).run Try.prog w = .ok (.slice (some ⟨w.heap.size, 0, none⟩) N N) (w.alloc (.cells (madeCells #[.int .u8 0, .int .u8 0] (N * 2)) 32)) := hmk
    go_simp
    exact ⟨w.heap.size, hI.put (d := 38) (by decide) (by simp) (hst w hI.wp)⟩
  · rintro a w ⟨g2, hI⟩
    have e7 := hI.g 7 rfl
    go_simp
    exact ⟨g2, hI.put (d := 39) (by decide) (by simp) hI.wp⟩
  · rintro a w ⟨g2, hI⟩
    have e39 := hI.g 39 rfl
    have e38 := hI.g 38 rfl
    obtain ⟨v0, cw0⟩ := cw _ w hI.wp
    have fw0 := fw _ w hI.wp
    go_simp
    exact ⟨g2, (hI.none (hst2 _ w hI.wp)).sub (by intro p hp; simp only [List.mem_cons, List.not_mem_nil, or_false] at hp ⊢; rcases hp with h | h | h <;> simp [h])⟩
  · rintro a w ⟨g2, hI⟩
    exact hQ g2 a w hI
set_option maxRecDepth 100000 in
set_option maxHeartbeats 4000000 in
theorem tq3 (n : Nat) (W : World) (B u v g2 N kk : Nat) (d1 : ¬ N = 0) (q0 : IntKind.i64.wrap (u : Int) = (u : Int)) (r0 : Int.tmod (u : Int) N = (kk : Int)) (c3 : W.cell? ⟨B, 3, none⟩ = some (.slice (some ⟨g2, 0, none⟩) N N)) (Q : Exit → Act → World → Prop) (a : Act) (h0 : SR [(1, .int .u16 u), (2, .int .u8 v), (7, .pointer (some ⟨B, 0, none⟩))] 139 [] W a W)
    (hQ : ∀ a, SR [(2, .int .u8 v), (7, .pointer (some ⟨B, 0, none⟩)), (8, .int .i64 kk)] 139 [] (W) a (W) → Q .normal a (W)) : (regOf 3 C6).wpIn Fence.wide n Try.prog Q a W := by
  simp only [regOf, C6, Try.f6, Option.getD, Nat.reduceBEq, Bool.false_eq_true, if_true, if_false]
  refine region_sq (fun k_ a w => match k_ with | 0 => SR [(1, .int .u16 u), (2, .int .u8 v), (7, .pointer (some ⟨B, 0, none⟩))] 139 [] (W) a w | 1 => SR [(2, .int .u8 v), (7, .pointer (some ⟨B, 0, none⟩)), (40, .int .u16 u)] 139 [] (W) a w | 2 => SR [(2, .int .u8 v), (7, .pointer (some ⟨B, 0, none⟩)), (41, .int .i64 u)] 139 [] (W) a w | 3 => SR [(2, .int .u8 v), (7, .pointer (some ⟨B, 0, none⟩)), (41, .int .i64 u), (42, .pointer (some ⟨B, 3, none⟩))] 139 [] (W) a w | 4 => SR [(2, .int .u8 v), (7, .pointer (some ⟨B, 0, none⟩)), (41, .int .i64 u), (43, .slice (some ⟨g2, 0, none⟩) N N)] 139 [] (W) a w | 5 => SR [(2, .int .u8 v), (7, .pointer (some ⟨B, 0, none⟩)), (41, .int .i64 u), (44, .int .i64 N)] 139 [] (W) a w | 6 => SR [(2, .int .u8 v), (7, .pointer (some ⟨B, 0, none⟩)), (45, .int .i64 kk)] 139 [] (W) a w | _ => SR [(2, .int .u8 v), (7, .pointer (some ⟨B, 0, none⟩)), (8, .int .i64 kk)] 139 [] (W) a w) (show SR _ _ _ _ a W from h0) ⟨?_, ?_, ?_, ?_, ?_, ?_, ?_, trivial⟩ ?_
  · intro a w hI
    have hI : SR _ _ _ _ a w := hI
    have e1 := hI.g 1 rfl
    have hw : w = W := hI.wp
    subst hw
    go_simp
    exact hI.put (d := 40) (by decide) (by simp)
  · intro a w hI
    have hI : SR _ _ _ _ a w := hI
    have e40 := hI.g 40 rfl
    have hw : w = W := hI.wp
    subst hw
    go_simp
    exact hI.put (d := 41) (by decide) (by simp)
  · intro a w hI
    have hI : SR _ _ _ _ a w := hI
    have e7 := hI.g 7 rfl
    have hw : w = W := hI.wp
    subst hw
    go_simp
    exact hI.put (d := 42) (by decide) (by simp)
  · intro a w hI
    have hI : SR _ _ _ _ a w := hI
    have e42 := hI.g 42 rfl
    have hw : w = W := hI.wp
    subst hw
    go_simp
    exact hI.put (d := 43) (by decide) (by simp)
  · intro a w hI
    have hI : SR _ _ _ _ a w := hI
    have e43 := hI.g 43 rfl
    have hw : w = W := hI.wp
    subst hw
    go_simp
    exact hI.put (d := 44) (by decide) (by simp)
  · intro a w hI
    have hI : SR _ _ _ _ a w := hI
    have e41 := hI.g 41 rfl
    have e44 := hI.g 44 rfl
    have hw : w = W := hI.wp
    subst hw
    go_simp
    exact hI.put (d := 45) (by decide) (by simp)
  · intro a w hI
    have hI : SR _ _ _ _ a w := hI
    have e45 := hI.g 45 rfl
    have hw : w = W := hI.wp
    subst hw
    go_simp
    exact hI.put (d := 8) (by decide) (by simp)
  · intro a w hI
    have hI : SR _ _ _ _ a w := hI
    have hw : w = W := hI.wp
    subst hw
    exact hQ a hI
set_option maxRecDepth 100000 in
set_option maxHeartbeats 4000000 in
theorem tq4 (n : Nat) (W : World) (B v kk x own : Nat) (r0 : Int.tmod (v : Int) 15 = (x : Int)) (q0 : IntKind.i64.wrap (x : Int) = (x : Int)) (t0 : IntKind.i64.wrap (1 + (x : Int)) = (own : Int)) (Q : Exit → Act → World → Prop) (a : Act) (h0 : SR [(2, .int .u8 v), (7, .pointer (some ⟨B, 0, none⟩)), (8, .int .i64 kk)] 139 [] W a W)
    (hQ : ∀ a, SR [(7, .pointer (some ⟨B, 0, none⟩)), (8, .int .i64 kk), (9, .int .i64 own)] 139 [] (W) a (W) → Q .normal a (W)) : (regOf 4 C6).wpIn Fence.wide n Try.prog Q a W := by
  simp only [regOf, C6, Try.f6, Option.getD, Nat.reduceBEq, Bool.false_eq_true, if_true, if_false]
  refine region_sq (fun k_ a w => match k_ with | 0 => SR [(2, .int .u8 v), (7, .pointer (some ⟨B, 0, none⟩)), (8, .int .i64 kk)] 139 [] (W) a w | 1 => SR [(7, .pointer (some ⟨B, 0, none⟩)), (8, .int .i64 kk), (46, .int .u8 v)] 139 [] (W) a w | 2 => SR [(7, .pointer (some ⟨B, 0, none⟩)), (8, .int .i64 kk), (47, .int .u8 x)] 139 [] (W) a w | 3 => SR [(7, .pointer (some ⟨B, 0, none⟩)), (8, .int .i64 kk), (48, .int .i64 x)] 139 [] (W) a w | 4 => SR [(7, .pointer (some ⟨B, 0, none⟩)), (8, .int .i64 kk), (49, .int .i64 own)] 139 [] (W) a w | _ => SR [(7, .pointer (some ⟨B, 0, none⟩)), (8, .int .i64 kk), (9, .int .i64 own)] 139 [] (W) a w) (show SR _ _ _ _ a W from h0) ⟨?_, ?_, ?_, ?_, ?_, trivial⟩ ?_
  · intro a w hI
    have hI : SR _ _ _ _ a w := hI
    have e2 := hI.g 2 rfl
    have hw : w = W := hI.wp
    subst hw
    go_simp
    exact hI.put (d := 46) (by decide) (by simp)
  · intro a w hI
    have hI : SR _ _ _ _ a w := hI
    have e46 := hI.g 46 rfl
    have hw : w = W := hI.wp
    subst hw
    go_simp
    exact hI.put (d := 47) (by decide) (by simp)
  · intro a w hI
    have hI : SR _ _ _ _ a w := hI
    have e47 := hI.g 47 rfl
    have hw : w = W := hI.wp
    subst hw
    go_simp
    exact hI.put (d := 48) (by decide) (by simp)
  · intro a w hI
    have hI : SR _ _ _ _ a w := hI
    have e48 := hI.g 48 rfl
    have hw : w = W := hI.wp
    subst hw
    go_simp
    exact hI.put (d := 49) (by decide) (by simp)
  · intro a w hI
    have hI : SR _ _ _ _ a w := hI
    have e49 := hI.g 49 rfl
    have hw : w = W := hI.wp
    subst hw
    go_simp
    exact hI.put (d := 9) (by decide) (by simp)
  · intro a w hI
    have hI : SR _ _ _ _ a w := hI
    have hw : w = W := hI.wp
    subst hw
    exact hQ a hI
set_option maxRecDepth 100000 in
set_option maxHeartbeats 4000000 in
theorem tq5 (n : Nat) {G G1 : World → Prop} (B kk own g2 N : Nat) (hk : kk < N) (q0 : IntKind.u8.wrap (own : Int) = (own : Int)) (c3 : ∀ w, G w → w.cell? ⟨B, 3, none⟩ = some (.slice (some ⟨g2, 0, none⟩) N N)) (cw : ∀ w, G w → (∃ v, w.cell? ⟨g2, kk * 2, none⟩ = some v) ∧ ∃ v, w.cell? ⟨g2, kk * 2 + 1, none⟩ = some v) (fw : ∀ w, G w → w.frozen? ⟨g2, kk * 2, none⟩ = false ∧ w.frozen? ⟨g2, kk * 2 + 1, none⟩ = false) (hst : ∀ w, G w → G1 ((w.setCell ⟨g2, kk * 2, none⟩ (.int .u8 11)).setCell ⟨g2, kk * 2 + 1, none⟩ (.int .u8 own))) (Q : Exit → Act → World → Prop) (a : Act) (w : World) (h0 : SG [(7, .pointer (some ⟨B, 0, none⟩)), (8, .int .i64 kk), (9, .int .i64 own)] 139 G a w)
    (hQ : ∀ a w, SG [(7, .pointer (some ⟨B, 0, none⟩)), (8, .int .i64 kk), (9, .int .i64 own)] 139 G1 a w → Q .normal a w) : (regOf 5 C6).wpIn Fence.wide n Try.prog Q a w := by
  simp only [regOf, C6, Try.f6, Option.getD, Nat.reduceBEq, Bool.false_eq_true, if_true, if_false]
  refine region_sq (fun k_ a w => match k_ with | 0 => SG [(7, .pointer (some ⟨B, 0, none⟩)), (8, .int .i64 kk), (9, .int .i64 own)] 139 G a w | 1 => SG [(7, .pointer (some ⟨B, 0, none⟩)), (8, .int .i64 kk), (9, .int .i64 own), (50, .pointer (some ⟨B, 3, none⟩))] 139 G a w | 2 => SG [(7, .pointer (some ⟨B, 0, none⟩)), (8, .int .i64 kk), (9, .int .i64 own), (51, .slice (some ⟨g2, 0, none⟩) N N)] 139 G a w | 3 => SG [(7, .pointer (some ⟨B, 0, none⟩)), (8, .int .i64 kk), (9, .int .i64 own), (51, .slice (some ⟨g2, 0, none⟩) N N), (52, .int .i64 kk)] 139 G a w | 4 => SG [(7, .pointer (some ⟨B, 0, none⟩)), (8, .int .i64 kk), (9, .int .i64 own), (51, .slice (some ⟨g2, 0, none⟩) N N), (52, .int .i64 kk), (53, .int .i64 own)] 139 G a w | 5 => SG [(7, .pointer (some ⟨B, 0, none⟩)), (8, .int .i64 kk), (9, .int .i64 own), (51, .slice (some ⟨g2, 0, none⟩) N N), (52, .int .i64 kk), (54, .int .u8 own)] 139 G a w | 6 => SG [(7, .pointer (some ⟨B, 0, none⟩)), (8, .int .i64 kk), (9, .int .i64 own), (51, .slice (some ⟨g2, 0, none⟩) N N), (52, .int .i64 kk), (55, .agg #[.int .u8 11, .int .u8 own])] 139 G a w | 7 => SG [(7, .pointer (some ⟨B, 0, none⟩)), (8, .int .i64 kk), (9, .int .i64 own), (55, .agg #[.int .u8 11, .int .u8 own]), (56, .pointer (some ⟨g2, kk * 2, none⟩))] 139 G a w | _ => SG [(7, .pointer (some ⟨B, 0, none⟩)), (8, .int .i64 kk), (9, .int .i64 own)] 139 G1 a w) (show SG _ _ G a w from h0) ⟨?_, ?_, ?_, ?_, ?_, ?_, ?_, ?_, trivial⟩ ?_
  · intro a w hI
    have hI : SG _ _ G a w := hI
    have e7 := hI.g 7 rfl
    go_simp
    exact hI.put (d := 50) (by decide) (by simp) hI.wp
  · intro a w hI
    have hI : SG _ _ G a w := hI
    have e50 := hI.g 50 rfl
    have cc0 := c3 w hI.wp
    go_simp
    exact hI.put (d := 51) (by decide) (by simp) hI.wp
  · intro a w hI
    have hI : SG _ _ G a w := hI
    have e8 := hI.g 8 rfl
    go_simp
    exact hI.put (d := 52) (by decide) (by simp) hI.wp
  · intro a w hI
    have hI : SG _ _ G a w := hI
    have e9 := hI.g 9 rfl
    go_simp
    exact hI.put (d := 53) (by decide) (by simp) hI.wp
  · intro a w hI
    have hI : SG _ _ G a w := hI
    have e53 := hI.g 53 rfl
    go_simp
    exact hI.put (d := 54) (by decide) (by simp) hI.wp
  · intro a w hI
    have hI : SG _ _ G a w := hI
    have e54 := hI.g 54 rfl
    go_simp
    exact hI.put (d := 55) (by decide) (by simp) hI.wp
  · intro a w hI
    have hI : SG _ _ G a w := hI
    have e51 := hI.g 51 rfl
    have e52 := hI.g 52 rfl
    have q1_6 : (0 : Int) ≤ kk := by omega
    have q2_6 : (kk : Int) < N := by omega
    go_simp
    exact hI.put (d := 56) (by decide) (by simp) hI.wp
  · intro a w hI
    have hI : SG _ _ G a w := hI
    have e56 := hI.g 56 rfl
    have e55 := hI.g 55 rfl
    obtain ⟨⟨v0, cw0⟩, v1, cw1⟩ := cw w hI.wp
    obtain ⟨fw0, fw1⟩ := fw w hI.wp
    go_simp
    exact (hI.none (hst w hI.wp)).sub (by intro p hp; simp only [List.mem_cons, List.not_mem_nil, or_false] at hp ⊢; rcases hp with h | h | h <;> simp [h])
  · intro a w hI
    have hI : SG _ _ G1 a w := hI
    exact hQ a w hI
set_option maxRecDepth 100000 in
set_option maxHeartbeats 4000000 in
theorem tq6 (n : Nat) {G : World → Prop} (B kk own g2 N : Nat) (X Y Z : Int) (G1 : Nat → World → Prop) (c0 : ∀ w, G w → w.cell? ⟨B, 0, none⟩ = some (.int .i64 X)) (c1 : ∀ w, G w → w.cell? ⟨B, 1, none⟩ = some (.int .i64 Y)) (c2_ : ∀ w, G w → w.cell? ⟨B, 2, none⟩ = some (.int .i64 Z)) (c3 : ∀ w, G w → w.cell? ⟨B, 3, none⟩ = some (.slice (some ⟨g2, 0, none⟩) N N)) (hc : ∀ m w, G w → CallsIn Fence.wide m Try.prog 14 #[.agg #[.int .i64 X, .int .i64 Y, .int .i64 Z, .slice (some ⟨g2, 0, none⟩) N N]] w fun e w' => ∃ (r : Nat), e = .returned (.tuple #[.slice (some ⟨r, 0, none⟩) N N, .int .i64 0]) ∧ (G1 r) w') (Q : Exit → Act → World → Prop) (a : Act) (w : World) (h0 : SG [(7, .pointer (some ⟨B, 0, none⟩)), (8, .int .i64 kk), (9, .int .i64 own)] 139 G a w)
    (hQ : ∀ (r : Nat) a w, SG [(7, .pointer (some ⟨B, 0, none⟩)), (8, .int .i64 kk), (9, .int .i64 own), (10, .slice (some ⟨r, 0, none⟩) N N), (11, .int .i64 0)] 139 (G1 r) a w → Q .normal a w) : (regOf 6 C6).wpIn Fence.wide n Try.prog Q a w := by
  simp only [regOf, C6, Try.f6, Option.getD, Nat.reduceBEq, Bool.false_eq_true, if_true, if_false]
  refine region_sq (fun k_ a w => match k_ with | 0 => SG [(7, .pointer (some ⟨B, 0, none⟩)), (8, .int .i64 kk), (9, .int .i64 own)] 139 G a w | 1 => SG [(7, .pointer (some ⟨B, 0, none⟩)), (8, .int .i64 kk), (9, .int .i64 own), (58, .agg #[.int .i64 X, .int .i64 Y, .int .i64 Z, .slice (some ⟨g2, 0, none⟩) N N])] 139 G a w | 2 => ∃ (r : Nat), SG [(7, .pointer (some ⟨B, 0, none⟩)), (8, .int .i64 kk), (9, .int .i64 own), (59, .tuple #[.slice (some ⟨r, 0, none⟩) N N, .int .i64 0])] 139 (G1 r) a w | 3 => ∃ (r : Nat), SG [(7, .pointer (some ⟨B, 0, none⟩)), (8, .int .i64 kk), (9, .int .i64 own), (57, .tuple #[.slice (some ⟨r, 0, none⟩) N N, .int .i64 0])] 139 (G1 r) a w | 4 => ∃ (r : Nat), SG [(7, .pointer (some ⟨B, 0, none⟩)), (8, .int .i64 kk), (9, .int .i64 own), (57, .tuple #[.slice (some ⟨r, 0, none⟩) N N, .int .i64 0]), (60, .slice (some ⟨r, 0, none⟩) N N)] 139 (G1 r) a w | 5 => ∃ (r : Nat), SG [(7, .pointer (some ⟨B, 0, none⟩)), (8, .int .i64 kk), (9, .int .i64 own), (60, .slice (some ⟨r, 0, none⟩) N N), (61, .int .i64 0)] 139 (G1 r) a w | 6 => ∃ (r : Nat), SG [(7, .pointer (some ⟨B, 0, none⟩)), (8, .int .i64 kk), (9, .int .i64 own), (61, .int .i64 0), (10, .slice (some ⟨r, 0, none⟩) N N)] 139 (G1 r) a w | _ => ∃ (r : Nat), SG [(7, .pointer (some ⟨B, 0, none⟩)), (8, .int .i64 kk), (9, .int .i64 own), (10, .slice (some ⟨r, 0, none⟩) N N), (11, .int .i64 0)] 139 (G1 r) a w) (show SG _ _ G a w from h0) ⟨?_, ?_, ?_, ?_, ?_, ?_, ?_, trivial⟩ ?_
  · intro a w hI
    have hI : SG _ _ G a w := hI
    have e7 := hI.g 7 rfl
    have cc0 := c0 w hI.wp
    have cc1 := c1 w hI.wp
    have cc2 := c2_ w hI.wp
    have cc3 := c3 w hI.wp
    go_simp
    exact hI.put (d := 58) (by decide) (by simp) hI.wp
  · intro a w hI
    have hI : SG _ _ G a w := hI
    have e58 := hI.g 58 rfl
    go_simp
    refine ⟨trivial, fun h => (by cases h), (hc (n - 1) w hI.wp).mono ?_⟩
    rintro e w' ⟨r, rfl, hg2⟩
    exact ⟨r, hI.put (d := 59) (by decide) (by simp) hg2⟩
  · rintro a w ⟨r, hI⟩
    have e59 := hI.g 59 rfl
    go_simp
    exact ⟨r, hI.put (d := 57) (by decide) (by simp) hI.wp⟩
  · rintro a w ⟨r, hI⟩
    have e57 := hI.g 57 rfl
    go_simp
    exact ⟨r, hI.put (d := 60) (by decide) (by simp) hI.wp⟩
  · rintro a w ⟨r, hI⟩
    have e57 := hI.g 57 rfl
    go_simp
    exact ⟨r, hI.put (d := 61) (by decide) (by simp) hI.wp⟩
  · rintro a w ⟨r, hI⟩
    have e60 := hI.g 60 rfl
    go_simp
    exact ⟨r, hI.put (d := 10) (by decide) (by simp) hI.wp⟩
  · rintro a w ⟨r, hI⟩
    have e61 := hI.g 61 rfl
    go_simp
    exact ⟨r, hI.put (d := 11) (by decide) (by simp) hI.wp⟩
  · rintro a w ⟨r, hI⟩
    exact hQ r a w hI
set_option maxRecDepth 100000 in
set_option maxHeartbeats 4000000 in
theorem tq7 (n : Nat) (W : World) (B kk own r g2 N : Nat) (c3 : W.cell? ⟨B, 3, none⟩ = some (.slice (some ⟨g2, 0, none⟩) N N)) (Q : Exit → Act → World → Prop) (a : Act) (h0 : SR [(7, .pointer (some ⟨B, 0, none⟩)), (8, .int .i64 kk), (9, .int .i64 own), (10, .slice (some ⟨r, 0, none⟩) N N), (11, .int .i64 0)] 139 [] W a W)
    (hQ : ∀ a, SR [(7, .pointer (some ⟨B, 0, none⟩)), (8, .int .i64 kk), (9, .int .i64 own), (10, .slice (some ⟨r, 0, none⟩) N N), (71, .bool false)] 139 [] (W) a (W) → Q .normal a (W)) : (regOf 7 C6).wpIn Fence.wide n Try.prog Q a W := by
  simp only [regOf, C6, Try.f6, Option.getD, Nat.reduceBEq, Bool.false_eq_true, if_true, if_false]
  refine region_sq (fun k_ a w => match k_ with | 0 => SR [(7, .pointer (some ⟨B, 0, none⟩)), (8, .int .i64 kk), (9, .int .i64 own), (10, .slice (some ⟨r, 0, none⟩) N N), (11, .int .i64 0)] 139 [] (W) a w | 1 => SR [(7, .pointer (some ⟨B, 0, none⟩)), (8, .int .i64 kk), (9, .int .i64 own), (10, .slice (some ⟨r, 0, none⟩) N N), (62, .int .i64 0)] 139 [] (W) a w | 2 => SR [(7, .pointer (some ⟨B, 0, none⟩)), (8, .int .i64 kk), (9, .int .i64 own), (10, .slice (some ⟨r, 0, none⟩) N N), (63, .bool false)] 139 [] (W) a w | 3 => SR [(7, .pointer (some ⟨B, 0, none⟩)), (8, .int .i64 kk), (9, .int .i64 own), (10, .slice (some ⟨r, 0, none⟩) N N), (64, .bool false)] 139 [] (W) a w | 4 => SR [(7, .pointer (some ⟨B, 0, none⟩)), (8, .int .i64 kk), (9, .int .i64 own), (10, .slice (some ⟨r, 0, none⟩) N N), (64, .bool false), (65, .slice (some ⟨r, 0, none⟩) N N)] 139 [] (W) a w | 5 => SR [(7, .pointer (some ⟨B, 0, none⟩)), (8, .int .i64 kk), (9, .int .i64 own), (10, .slice (some ⟨r, 0, none⟩) N N), (64, .bool false), (66, .int .i64 N)] 139 [] (W) a w | 6 => SR [(7, .pointer (some ⟨B, 0, none⟩)), (8, .int .i64 kk), (9, .int .i64 own), (10, .slice (some ⟨r, 0, none⟩) N N), (64, .bool false), (66, .int .i64 N), (67, .pointer (some ⟨B, 3, none⟩))] 139 [] (W) a w | 7 => SR [(7, .pointer (some ⟨B, 0, none⟩)), (8, .int .i64 kk), (9, .int .i64 own), (10, .slice (some ⟨r, 0, none⟩) N N), (64, .bool false), (66, .int .i64 N), (68, .slice (some ⟨g2, 0, none⟩) N N)] 139 [] (W) a w | 8 => SR [(7, .pointer (some ⟨B, 0, none⟩)), (8, .int .i64 kk), (9, .int .i64 own), (10, .slice (some ⟨r, 0, none⟩) N N), (64, .bool false), (66, .int .i64 N), (69, .int .i64 N)] 139 [] (W) a w | 9 => SR [(7, .pointer (some ⟨B, 0, none⟩)), (8, .int .i64 kk), (9, .int .i64 own), (10, .slice (some ⟨r, 0, none⟩) N N), (64, .bool false), (70, .bool false)] 139 [] (W) a w | _ => SR [(7, .pointer (some ⟨B, 0, none⟩)), (8, .int .i64 kk), (9, .int .i64 own), (10, .slice (some ⟨r, 0, none⟩) N N), (71, .bool false)] 139 [] (W) a w) (show SR _ _ _ _ a W from h0) ⟨?_, ?_, ?_, ?_, ?_, ?_, ?_, ?_, ?_, ?_, trivial⟩ ?_
  · intro a w hI
    have hI : SR _ _ _ _ a w := hI
    have e11 := hI.g 11 rfl
    have hw : w = W := hI.wp
    subst hw
    go_simp
    exact hI.put (d := 62) (by decide) (by simp)
  · intro a w hI
    have hI : SR _ _ _ _ a w := hI
    have e62 := hI.g 62 rfl
    have hw : w = W := hI.wp
    subst hw
    go_simp
    exact hI.put (d := 63) (by decide) (by simp)
  · intro a w hI
    have hI : SR _ _ _ _ a w := hI
    have e63 := hI.g 63 rfl
    have hw : w = W := hI.wp
    subst hw
    go_simp
    exact hI.put (d := 64) (by decide) (by simp)
  · intro a w hI
    have hI : SR _ _ _ _ a w := hI
    have e10 := hI.g 10 rfl
    have e64 := hI.g 64 rfl
    have f64 := slot_bool e64
    have hw : w = W := hI.wp
    subst hw
    go_simp
    exact hI.put (d := 65) (by decide) (by simp)
  · intro a w hI
    have hI : SR _ _ _ _ a w := hI
    have e65 := hI.g 65 rfl
    have e64 := hI.g 64 rfl
    have f64 := slot_bool e64
    have hw : w = W := hI.wp
    subst hw
    go_simp
    exact hI.put (d := 66) (by decide) (by simp)
  · intro a w hI
    have hI : SR _ _ _ _ a w := hI
    have e7 := hI.g 7 rfl
    have e64 := hI.g 64 rfl
    have f64 := slot_bool e64
    have hw : w = W := hI.wp
    subst hw
    go_simp
    exact hI.put (d := 67) (by decide) (by simp)
  · intro a w hI
    have hI : SR _ _ _ _ a w := hI
    have e67 := hI.g 67 rfl
    have e64 := hI.g 64 rfl
    have f64 := slot_bool e64
    have hw : w = W := hI.wp
    subst hw
    go_simp
    exact hI.put (d := 68) (by decide) (by simp)
  · intro a w hI
    have hI : SR _ _ _ _ a w := hI
    have e68 := hI.g 68 rfl
    have e64 := hI.g 64 rfl
    have f64 := slot_bool e64
    have hw : w = W := hI.wp
    subst hw
    go_simp
    exact hI.put (d := 69) (by decide) (by simp)
  · intro a w hI
    have hI : SR _ _ _ _ a w := hI
    have e66 := hI.g 66 rfl
    have e69 := hI.g 69 rfl
    have e64 := hI.g 64 rfl
    have f64 := slot_bool e64
    have hw : w = W := hI.wp
    subst hw
    go_simp
    exact hI.put (d := 70) (by decide) (by simp)
  · intro a w hI
    have hI : SR _ _ _ _ a w := hI
    have e64 := hI.g 64 rfl
    have e70 := hI.g 70 rfl
    have hw : w = W := hI.wp
    subst hw
    go_simp
    exact hI.put (d := 71) (by decide) (by simp)
  · intro a w hI
    have hI : SR _ _ _ _ a w := hI
    have hw : w = W := hI.wp
    subst hw
    exact hQ a hI
set_option maxRecDepth 100000 in
set_option maxHeartbeats 4000000 in
theorem tq9 (n : Nat) (W : World) (B kk own r N : Nat) (Q : Exit → Act → World → Prop) (a : Act) (h0 : SR [(7, .pointer (some ⟨B, 0, none⟩)), (8, .int .i64 kk), (9, .int .i64 own), (10, .slice (some ⟨r, 0, none⟩) N N)] 139 [] W a W)
    (hQ : ∀ a, SR [(7, .pointer (some ⟨B, 0, none⟩)), (8, .int .i64 kk), (9, .int .i64 own), (10, .slice (some ⟨r, 0, none⟩) N N), (12, .int .i64 0)] 139 [] (W) a (W) → Q .normal a (W)) : (regOf 9 C6).wpIn Fence.wide n Try.prog Q a W := by
  simp only [regOf, C6, Try.f6, Option.getD, Nat.reduceBEq, Bool.false_eq_true, if_true, if_false]
  refine region_sq (fun k_ a w => match k_ with | 0 => SR [(7, .pointer (some ⟨B, 0, none⟩)), (8, .int .i64 kk), (9, .int .i64 own), (10, .slice (some ⟨r, 0, none⟩) N N)] 139 [] (W) a w | _ => SR [(7, .pointer (some ⟨B, 0, none⟩)), (8, .int .i64 kk), (9, .int .i64 own), (10, .slice (some ⟨r, 0, none⟩) N N), (12, .int .i64 0)] 139 [] (W) a w) (show SR _ _ _ _ a W from h0) ⟨?_, trivial⟩ ?_
  · intro a w hI
    have hI : SR _ _ _ _ a w := hI
    have hw : w = W := hI.wp
    subst hw
    go_simp
    exact hI.put (d := 12) (by decide) (by simp)
  · intro a w hI
    have hI : SR _ _ _ _ a w := hI
    have hw : w = W := hI.wp
    subst hw
    exact hQ a hI
set_option maxRecDepth 100000 in
set_option maxHeartbeats 4000000 in
theorem tq10 (n : Nat) (W : World) (B kk own r N i : Nat)  (Q : Exit → Act → World → Prop) (a : Act) (h0 : SR [(7, .pointer (some ⟨B, 0, none⟩)), (8, .int .i64 kk), (9, .int .i64 own), (10, .slice (some ⟨r, 0, none⟩) N N), (12, .int .i64 i)] 139 [] W a W)
    (hQ : ∀ a, SR [(7, .pointer (some ⟨B, 0, none⟩)), (8, .int .i64 kk), (9, .int .i64 own), (10, .slice (some ⟨r, 0, none⟩) N N), (12, .int .i64 i), (75, .bool (decide (i < N)))] 139 [] (W) a (W) → Q .normal a (W)) : (regOf 10 C6).wpIn Fence.wide n Try.prog Q a W := by
  simp only [regOf, C6, Try.f6, Option.getD, Nat.reduceBEq, Bool.false_eq_true, if_true, if_false]
  refine region_sq (fun k_ a w => match k_ with | 0 => SR [(7, .pointer (some ⟨B, 0, none⟩)), (8, .int .i64 kk), (9, .int .i64 own), (10, .slice (some ⟨r, 0, none⟩) N N), (12, .int .i64 i)] 139 [] (W) a w | 1 => SR [(7, .pointer (some ⟨B, 0, none⟩)), (8, .int .i64 kk), (9, .int .i64 own), (10, .slice (some ⟨r, 0, none⟩) N N), (12, .int .i64 i), (72, .int .i64 i)] 139 [] (W) a w | 2 => SR [(7, .pointer (some ⟨B, 0, none⟩)), (8, .int .i64 kk), (9, .int .i64 own), (10, .slice (some ⟨r, 0, none⟩) N N), (12, .int .i64 i), (72, .int .i64 i), (73, .slice (some ⟨r, 0, none⟩) N N)] 139 [] (W) a w | 3 => SR [(7, .pointer (some ⟨B, 0, none⟩)), (8, .int .i64 kk), (9, .int .i64 own), (10, .slice (some ⟨r, 0, none⟩) N N), (12, .int .i64 i), (72, .int .i64 i), (74, .int .i64 N)] 139 [] (W) a w | _ => SR [(7, .pointer (some ⟨B, 0, none⟩)), (8, .int .i64 kk), (9, .int .i64 own), (10, .slice (some ⟨r, 0, none⟩) N N), (12, .int .i64 i), (75, .bool (decide (i < N)))] 139 [] (W) a w) (show SR _ _ _ _ a W from h0) ⟨?_, ?_, ?_, ?_, trivial⟩ ?_
  · intro a w hI
    have hI : SR _ _ _ _ a w := hI
    have e12 := hI.g 12 rfl
    have hw : w = W := hI.wp
    subst hw
    go_simp
    exact hI.put (d := 72) (by decide) (by simp)
  · intro a w hI
    have hI : SR _ _ _ _ a w := hI
    have e10 := hI.g 10 rfl
    have hw : w = W := hI.wp
    subst hw
    go_simp
    exact hI.put (d := 73) (by decide) (by simp)
  · intro a w hI
    have hI : SR _ _ _ _ a w := hI
    have e73 := hI.g 73 rfl
    have hw : w = W := hI.wp
    subst hw
    go_simp
    exact hI.put (d := 74) (by decide) (by simp)
  · intro a w hI
    have hI : SR _ _ _ _ a w := hI
    have e72 := hI.g 72 rfl
    have e74 := hI.g 74 rfl
    have hw : w = W := hI.wp
    subst hw
    go_simp
    exact hI.put (d := 75) (by decide) (by simp)
  · intro a w hI
    have hI : SR _ _ _ _ a w := hI
    have hw : w = W := hI.wp
    subst hw
    exact hQ a hI
set_option maxRecDepth 100000 in
set_option maxHeartbeats 4000000 in
theorem tq11 (n : Nat) (W : World) (B kk own r N i : Nat) (hi : i < 9000000000) (Q : Exit → Act → World → Prop) (a : Act) (h0 : SR [(7, .pointer (some ⟨B, 0, none⟩)), (8, .int .i64 kk), (9, .int .i64 own), (10, .slice (some ⟨r, 0, none⟩) N N), (12, .int .i64 i)] 139 [] W a W)
    (hQ : ∀ a, SR [(7, .pointer (some ⟨B, 0, none⟩)), (8, .int .i64 kk), (9, .int .i64 own), (10, .slice (some ⟨r, 0, none⟩) N N), (12, .int .i64 ((i : Int) + 1))] 139 [] (W) a (W) → Q .normal a (W)) : (regOf 11 C6).wpIn Fence.wide n Try.prog Q a W := by
  simp only [regOf, C6, Try.f6, Option.getD, Nat.reduceBEq, Bool.false_eq_true, if_true, if_false]
  refine region_sq (fun k_ a w => match k_ with | 0 => SR [(7, .pointer (some ⟨B, 0, none⟩)), (8, .int .i64 kk), (9, .int .i64 own), (10, .slice (some ⟨r, 0, none⟩) N N), (12, .int .i64 i)] 139 [] (W) a w | 1 => SR [(7, .pointer (some ⟨B, 0, none⟩)), (8, .int .i64 kk), (9, .int .i64 own), (10, .slice (some ⟨r, 0, none⟩) N N), (76, .int .i64 i)] 139 [] (W) a w | 2 => SR [(7, .pointer (some ⟨B, 0, none⟩)), (8, .int .i64 kk), (9, .int .i64 own), (10, .slice (some ⟨r, 0, none⟩) N N), (77, .int .i64 ((i : Int) + 1))] 139 [] (W) a w | _ => SR [(7, .pointer (some ⟨B, 0, none⟩)), (8, .int .i64 kk), (9, .int .i64 own), (10, .slice (some ⟨r, 0, none⟩) N N), (12, .int .i64 ((i : Int) + 1))] 139 [] (W) a w) (show SR _ _ _ _ a W from h0) ⟨?_, ?_, ?_, trivial⟩ ?_
  · intro a w hI
    have hI : SR _ _ _ _ a w := hI
    have e12 := hI.g 12 rfl
    have hw : w = W := hI.wp
    subst hw
    go_simp
    exact hI.put (d := 76) (by decide) (by simp)
  · intro a w hI
    have hI : SR _ _ _ _ a w := hI
    have e76 := hI.g 76 rfl
    have hw : w = W := hI.wp
    subst hw
    have hw1 : IntKind.i64.wrap ((i : Int) + 1) = (i : Int) + 1 := IntWalk.i64_in _ (by omega)
    go_simp
    exact hI.put (d := 77) (by decide) (by simp)
  · intro a w hI
    have hI : SR _ _ _ _ a w := hI
    have e77 := hI.g 77 rfl
    have hw : w = W := hI.wp
    subst hw
    go_simp
    exact hI.put (d := 12) (by decide) (by simp)
  · intro a w hI
    have hI : SR _ _ _ _ a w := hI
    have hw : w = W := hI.wp
    subst hw
    exact hQ a hI
set_option maxRecDepth 100000 in
set_option maxHeartbeats 4000000 in
theorem tq12 (n : Nat) {G : World → Prop} (hS : Stable G) (B kk own r N i : Nat) (X Z x q z y kx kq kz ky e1 e2 e3 f1 far : Nat) (d1 : ¬ X = 0) (d2 : ¬ Z = 0) (hx : Int.tmod (i : Int) X = (x : Int)) (hq : IntKind.i64.wrap ((i : Int) / X) = (q : Int)) (hz : Int.tmod (q : Int) Z = (z : Int)) (hy : IntKind.i64.wrap ((q : Int) / Z) = (y : Int)) (kkx : Int.tmod (kk : Int) X = (kx : Int)) (kkq : IntKind.i64.wrap ((kk : Int) / X) = (kq : Int)) (kkz : Int.tmod (kq : Int) Z = (kz : Int)) (kky : IntKind.i64.wrap ((kq : Int) / Z) = (ky : Int)) (hf1 : IntKind.i64.wrap ((e1 : Int) + e2) = (f1 : Int)) (hf2 : IntKind.i64.wrap ((f1 : Int) + e3) = (far : Int)) (c0 : ∀ w, G w → w.cell? ⟨B, 0, none⟩ = some (.int .i64 X)) (c2_ : ∀ w, G w → w.cell? ⟨B, 2, none⟩ = some (.int .i64 Z)) (g1 : ∀ m w, G w → CallsIn Fence.wide m Try.prog 20 #[.int .i64 x, .int .i64 kx] w fun e w' => e = .returned (.int .i64 e1) ∧ Below w.heap.size w w') (g2_ : ∀ m w, G w → CallsIn Fence.wide m Try.prog 20 #[.int .i64 z, .int .i64 kz] w fun e w' => e = .returned (.int .i64 e2) ∧ Below w.heap.size w w') (g3_ : ∀ m w, G w → CallsIn Fence.wide m Try.prog 20 #[.int .i64 y, .int .i64 ky] w fun e w' => e = .returned (.int .i64 e3) ∧ Below w.heap.size w w') (Q : Exit → Act → World → Prop) (a : Act) (w : World) (h0 : SG [(7, .pointer (some ⟨B, 0, none⟩)), (8, .int .i64 kk), (9, .int .i64 own), (10, .slice (some ⟨r, 0, none⟩) N N), (12, .int .i64 i)] 139 G a w)
    (hQ : ∀ a w, SG [(7, .pointer (some ⟨B, 0, none⟩)), (8, .int .i64 kk), (9, .int .i64 own), (10, .slice (some ⟨r, 0, none⟩) N N), (12, .int .i64 i), (13, .int .i64 far)] 139 G a w → Q .normal a w) : (regOf 12 C6).wpIn Fence.wide n Try.prog Q a w := by
  have hmix : Try.prog.follows .mixedOrders = true := by kernel_rfl
  simp only [regOf, C6, Try.f6, Option.getD, Nat.reduceBEq, Bool.false_eq_true, if_true, if_false]
  refine region_inv (RI [(7, .pointer (some ⟨B, 0, none⟩)), (8, .int .i64 kk), (9, .int .i64 own), (10, .slice (some ⟨r, 0, none⟩) N N), (12, .int .i64 i)]
    [(0, 78, .int .i64 i), (1, 79, .pointer (some ⟨B, 0, none⟩)), (2, 80, .int .i64 X), (3, 81, .int .i64 x), (4, 82, .int .i64 kk), (5, 83, .pointer (some ⟨B, 0, none⟩)), (6, 84, .int .i64 X), (7, 85, .int .i64 kx), (8, 86, .int .i64 e1), (9, 87, .int .i64 i), (10, 88, .pointer (some ⟨B, 0, none⟩)), (11, 89, .int .i64 X), (12, 90, .int .i64 q), (13, 91, .pointer (some ⟨B, 2, none⟩)), (14, 92, .int .i64 Z), (15, 93, .int .i64 z), (16, 94, .int .i64 kk), (17, 95, .pointer (some ⟨B, 0, none⟩)), (18, 96, .int .i64 X), (19, 97, .int .i64 kq), (20, 98, .pointer (some ⟨B, 2, none⟩)), (21, 99, .int .i64 Z), (22, 100, .int .i64 kz), (23, 101, .int .i64 e2), (24, 102, .int .i64 f1), (25, 103, .int .i64 i), (26, 104, .pointer (some ⟨B, 0, none⟩)), (27, 105, .int .i64 X), (28, 106, .int .i64 q), (29, 107, .pointer (some ⟨B, 2, none⟩)), (30, 108, .int .i64 Z), (31, 109, .int .i64 y), (32, 110, .int .i64 kk), (33, 111, .pointer (some ⟨B, 0, none⟩)), (34, 112, .int .i64 X), (35, 113, .int .i64 kq), (36, 114, .pointer (some ⟨B, 2, none⟩)), (37, 115, .int .i64 Z), (38, 116, .int .i64 ky), (39, 117, .int .i64 e3), (40, 118, .int .i64 far), (41, 13, .int .i64 far)] 139 [] (fun _ w => G w)) hmix (by kernel_rfl) ⟨h0.size, h0.defers, h0.kn, by simp, hS _ _ h0.wp (Below.refl _ _).drew⟩ ⟨?_, ?_, ?_, ?_, ?_, ?_, ?_, ?_, ?_, ?_, ?_, ?_, ?_, ?_, ?_, ?_, ?_, ?_, ?_, ?_, ?_, ?_, ?_, ?_, ?_, ?_, ?_, ?_, ?_, ?_, ?_, ?_, ?_, ?_, ?_, ?_, ?_, ?_, ?_, ?_, ?_, ?_, trivial⟩ ?_
  · intro Xs a w hX hdep hC hI
    have e12 := hI.gi 12 rfl
    go_simp
    exact hI.put' (k := 0) (d := 78) (by decide) (by simp) (by simp) (by simp) hI.wp
  · intro Xs a w hX hdep hC hI
    have e7 := hI.gi 7 rfl
    go_simp
    exact hI.put' (k := 1) (d := 79) (by decide) (by simp) (by simp) (by simp) hI.wp
  · intro Xs a w hX hdep hC hI
    have x1 : Xs 1 = true := hdep ⟨1, .data⟩ (by simp) rfl
    have e79 := hI.gk 1 rfl x1
    have cc0 := c0 w hI.wp
    go_simp
    exact hI.put' (k := 2) (d := 80) (by decide) (by simp) (by simp) (by simp) hI.wp
  · intro Xs a w hX hdep hC hI
    have x0 : Xs 0 = true := hdep ⟨0, .data⟩ (by simp) rfl
    have e78 := hI.gk 0 rfl x0
    have x2 : Xs 2 = true := hdep ⟨2, .data⟩ (by simp) rfl
    have e80 := hI.gk 2 rfl x2
    go_simp
    exact hI.put' (k := 3) (d := 81) (by decide) (by simp) (by simp) (by simp) hI.wp
  · intro Xs a w hX hdep hC hI
    have e8 := hI.gi 8 rfl
    go_simp
    exact hI.put' (k := 4) (d := 82) (by decide) (by simp) (by simp) (by simp) hI.wp
  · intro Xs a w hX hdep hC hI
    have e7 := hI.gi 7 rfl
    go_simp
    exact hI.put' (k := 5) (d := 83) (by decide) (by simp) (by simp) (by simp) hI.wp
  · intro Xs a w hX hdep hC hI
    have x5 : Xs 5 = true := hdep ⟨5, .data⟩ (by simp) rfl
    have e83 := hI.gk 5 rfl x5
    have cc0 := c0 w hI.wp
    go_simp
    exact hI.put' (k := 6) (d := 84) (by decide) (by simp) (by simp) (by simp) hI.wp
  · intro Xs a w hX hdep hC hI
    have x4 : Xs 4 = true := hdep ⟨4, .data⟩ (by simp) rfl
    have e82 := hI.gk 4 rfl x4
    have x6 : Xs 6 = true := hdep ⟨6, .data⟩ (by simp) rfl
    have e84 := hI.gk 6 rfl x6
    go_simp
    exact hI.put' (k := 7) (d := 85) (by decide) (by simp) (by simp) (by simp) hI.wp
  · intro Xs a w hX hdep hC hI
    have x3 : Xs 3 = true := hdep ⟨3, .data⟩ (by simp) rfl
    have e81 := hI.gk 3 rfl x3
    have x7 : Xs 7 = true := hdep ⟨7, .data⟩ (by simp) rfl
    have e85 := hI.gk 7 rfl x7
    go_simp
    refine ⟨trivial, fun h => (by cases h), (g1 (n - 1) w hI.wp).mono ?_⟩
    rintro e w' ⟨rfl, hb2⟩
    exact hI.put' (k := 8) (d := 86) (by decide) (by simp) (by simp) (by simp) (hS _ _ hI.wp hb2)
  · intro Xs a w hX hdep hC hI
    have e12 := hI.gi 12 rfl
    go_simp
    exact hI.put' (k := 9) (d := 87) (by decide) (by simp) (by simp) (by simp) hI.wp
  · intro Xs a w hX hdep hC hI
    have e7 := hI.gi 7 rfl
    go_simp
    exact hI.put' (k := 10) (d := 88) (by decide) (by simp) (by simp) (by simp) hI.wp
  · intro Xs a w hX hdep hC hI
    have x10 : Xs 10 = true := hdep ⟨10, .data⟩ (by simp) rfl
    have e88 := hI.gk 10 rfl x10
    have cc0 := c0 w hI.wp
    go_simp
    exact hI.put' (k := 11) (d := 89) (by decide) (by simp) (by simp) (by simp) hI.wp
  · intro Xs a w hX hdep hC hI
    have x9 : Xs 9 = true := hdep ⟨9, .data⟩ (by simp) rfl
    have e87 := hI.gk 9 rfl x9
    have x11 : Xs 11 = true := hdep ⟨11, .data⟩ (by simp) rfl
    have e89 := hI.gk 11 rfl x11
    go_simp
    exact hI.put' (k := 12) (d := 90) (by decide) (by simp) (by simp) (by simp) hI.wp
  · intro Xs a w hX hdep hC hI
    have e7 := hI.gi 7 rfl
    go_simp
    exact hI.put' (k := 13) (d := 91) (by decide) (by simp) (by simp) (by simp) hI.wp
  · intro Xs a w hX hdep hC hI
    have x13 : Xs 13 = true := hdep ⟨13, .data⟩ (by simp) rfl
    have e91 := hI.gk 13 rfl x13
    have cc0 := c2_ w hI.wp
    go_simp
    exact hI.put' (k := 14) (d := 92) (by decide) (by simp) (by simp) (by simp) hI.wp
  · intro Xs a w hX hdep hC hI
    have x12 : Xs 12 = true := hdep ⟨12, .data⟩ (by simp) rfl
    have e90 := hI.gk 12 rfl x12
    have x14 : Xs 14 = true := hdep ⟨14, .data⟩ (by simp) rfl
    have e92 := hI.gk 14 rfl x14
    go_simp
    exact hI.put' (k := 15) (d := 93) (by decide) (by simp) (by simp) (by simp) hI.wp
  · intro Xs a w hX hdep hC hI
    have e8 := hI.gi 8 rfl
    go_simp
    exact hI.put' (k := 16) (d := 94) (by decide) (by simp) (by simp) (by simp) hI.wp
  · intro Xs a w hX hdep hC hI
    have e7 := hI.gi 7 rfl
    go_simp
    exact hI.put' (k := 17) (d := 95) (by decide) (by simp) (by simp) (by simp) hI.wp
  · intro Xs a w hX hdep hC hI
    have x17 : Xs 17 = true := hdep ⟨17, .data⟩ (by simp) rfl
    have e95 := hI.gk 17 rfl x17
    have cc0 := c0 w hI.wp
    go_simp
    exact hI.put' (k := 18) (d := 96) (by decide) (by simp) (by simp) (by simp) hI.wp
  · intro Xs a w hX hdep hC hI
    have x16 : Xs 16 = true := hdep ⟨16, .data⟩ (by simp) rfl
    have e94 := hI.gk 16 rfl x16
    have x18 : Xs 18 = true := hdep ⟨18, .data⟩ (by simp) rfl
    have e96 := hI.gk 18 rfl x18
    go_simp
    exact hI.put' (k := 19) (d := 97) (by decide) (by simp) (by simp) (by simp) hI.wp
  · intro Xs a w hX hdep hC hI
    have e7 := hI.gi 7 rfl
    go_simp
    exact hI.put' (k := 20) (d := 98) (by decide) (by simp) (by simp) (by simp) hI.wp
  · intro Xs a w hX hdep hC hI
    have x20 : Xs 20 = true := hdep ⟨20, .data⟩ (by simp) rfl
    have e98 := hI.gk 20 rfl x20
    have cc0 := c2_ w hI.wp
    go_simp
    exact hI.put' (k := 21) (d := 99) (by decide) (by simp) (by simp) (by simp) hI.wp
  · intro Xs a w hX hdep hC hI
    have x19 : Xs 19 = true := hdep ⟨19, .data⟩ (by simp) rfl
    have e97 := hI.gk 19 rfl x19
    have x21 : Xs 21 = true := hdep ⟨21, .data⟩ (by simp) rfl
    have e99 := hI.gk 21 rfl x21
    go_simp
    exact hI.put' (k := 22) (d := 100) (by decide) (by simp) (by simp) (by simp) hI.wp
  · intro Xs a w hX hdep hC hI
    have x15 : Xs 15 = true := hdep ⟨15, .data⟩ (by simp) rfl
    have e93 := hI.gk 15 rfl x15
    have x22 : Xs 22 = true := hdep ⟨22, .data⟩ (by simp) rfl
    have e100 := hI.gk 22 rfl x22
    go_simp
    refine ⟨trivial, fun h => (by cases h), (g2_ (n - 1) w hI.wp).mono ?_⟩
    rintro e w' ⟨rfl, hb2⟩
    exact hI.put' (k := 23) (d := 101) (by decide) (by simp) (by simp) (by simp) (hS _ _ hI.wp hb2)
  · intro Xs a w hX hdep hC hI
    have x8 : Xs 8 = true := hdep ⟨8, .data⟩ (by simp) rfl
    have e86 := hI.gk 8 rfl x8
    have x23 : Xs 23 = true := hdep ⟨23, .data⟩ (by simp) rfl
    have e101 := hI.gk 23 rfl x23
    go_simp
    exact hI.put' (k := 24) (d := 102) (by decide) (by simp) (by simp) (by simp) hI.wp
  · intro Xs a w hX hdep hC hI
    have e12 := hI.gi 12 rfl
    go_simp
    exact hI.put' (k := 25) (d := 103) (by decide) (by simp) (by simp) (by simp) hI.wp
  · intro Xs a w hX hdep hC hI
    have e7 := hI.gi 7 rfl
    go_simp
    exact hI.put' (k := 26) (d := 104) (by decide) (by simp) (by simp) (by simp) hI.wp
  · intro Xs a w hX hdep hC hI
    have x26 : Xs 26 = true := hdep ⟨26, .data⟩ (by simp) rfl
    have e104 := hI.gk 26 rfl x26
    have cc0 := c0 w hI.wp
    go_simp
    exact hI.put' (k := 27) (d := 105) (by decide) (by simp) (by simp) (by simp) hI.wp
  · intro Xs a w hX hdep hC hI
    have x25 : Xs 25 = true := hdep ⟨25, .data⟩ (by simp) rfl
    have e103 := hI.gk 25 rfl x25
    have x27 : Xs 27 = true := hdep ⟨27, .data⟩ (by simp) rfl
    have e105 := hI.gk 27 rfl x27
    go_simp
    exact hI.put' (k := 28) (d := 106) (by decide) (by simp) (by simp) (by simp) hI.wp
  · intro Xs a w hX hdep hC hI
    have e7 := hI.gi 7 rfl
    go_simp
    exact hI.put' (k := 29) (d := 107) (by decide) (by simp) (by simp) (by simp) hI.wp
  · intro Xs a w hX hdep hC hI
    have x29 : Xs 29 = true := hdep ⟨29, .data⟩ (by simp) rfl
    have e107 := hI.gk 29 rfl x29
    have cc0 := c2_ w hI.wp
    go_simp
    exact hI.put' (k := 30) (d := 108) (by decide) (by simp) (by simp) (by simp) hI.wp
  · intro Xs a w hX hdep hC hI
    have x28 : Xs 28 = true := hdep ⟨28, .data⟩ (by simp) rfl
    have e106 := hI.gk 28 rfl x28
    have x30 : Xs 30 = true := hdep ⟨30, .data⟩ (by simp) rfl
    have e108 := hI.gk 30 rfl x30
    go_simp
    exact hI.put' (k := 31) (d := 109) (by decide) (by simp) (by simp) (by simp) hI.wp
  · intro Xs a w hX hdep hC hI
    have e8 := hI.gi 8 rfl
    go_simp
    exact hI.put' (k := 32) (d := 110) (by decide) (by simp) (by simp) (by simp) hI.wp
  · intro Xs a w hX hdep hC hI
    have e7 := hI.gi 7 rfl
    go_simp
    exact hI.put' (k := 33) (d := 111) (by decide) (by simp) (by simp) (by simp) hI.wp
  · intro Xs a w hX hdep hC hI
    have x33 : Xs 33 = true := hdep ⟨33, .data⟩ (by simp) rfl
    have e111 := hI.gk 33 rfl x33
    have cc0 := c0 w hI.wp
    go_simp
    exact hI.put' (k := 34) (d := 112) (by decide) (by simp) (by simp) (by simp) hI.wp
  · intro Xs a w hX hdep hC hI
    have x32 : Xs 32 = true := hdep ⟨32, .data⟩ (by simp) rfl
    have e110 := hI.gk 32 rfl x32
    have x34 : Xs 34 = true := hdep ⟨34, .data⟩ (by simp) rfl
    have e112 := hI.gk 34 rfl x34
    go_simp
    exact hI.put' (k := 35) (d := 113) (by decide) (by simp) (by simp) (by simp) hI.wp
  · intro Xs a w hX hdep hC hI
    have e7 := hI.gi 7 rfl
    go_simp
    exact hI.put' (k := 36) (d := 114) (by decide) (by simp) (by simp) (by simp) hI.wp
  · intro Xs a w hX hdep hC hI
    have x36 : Xs 36 = true := hdep ⟨36, .data⟩ (by simp) rfl
    have e114 := hI.gk 36 rfl x36
    have cc0 := c2_ w hI.wp
    go_simp
    exact hI.put' (k := 37) (d := 115) (by decide) (by simp) (by simp) (by simp) hI.wp
  · intro Xs a w hX hdep hC hI
    have x35 : Xs 35 = true := hdep ⟨35, .data⟩ (by simp) rfl
    have e113 := hI.gk 35 rfl x35
    have x37 : Xs 37 = true := hdep ⟨37, .data⟩ (by simp) rfl
    have e115 := hI.gk 37 rfl x37
    go_simp
    exact hI.put' (k := 38) (d := 116) (by decide) (by simp) (by simp) (by simp) hI.wp
  · intro Xs a w hX hdep hC hI
    have x31 : Xs 31 = true := hdep ⟨31, .data⟩ (by simp) rfl
    have e109 := hI.gk 31 rfl x31
    have x38 : Xs 38 = true := hdep ⟨38, .data⟩ (by simp) rfl
    have e116 := hI.gk 38 rfl x38
    go_simp
    refine ⟨trivial, fun h => (by cases h), (g3_ (n - 1) w hI.wp).mono ?_⟩
    rintro e w' ⟨rfl, hb2⟩
    exact hI.put' (k := 39) (d := 117) (by decide) (by simp) (by simp) (by simp) (hS _ _ hI.wp hb2)
  · intro Xs a w hX hdep hC hI
    have x24 : Xs 24 = true := hdep ⟨24, .data⟩ (by simp) rfl
    have e102 := hI.gk 24 rfl x24
    have x39 : Xs 39 = true := hdep ⟨39, .data⟩ (by simp) rfl
    have e117 := hI.gk 39 rfl x39
    go_simp
    exact hI.put' (k := 40) (d := 118) (by decide) (by simp) (by simp) (by simp) hI.wp
  · intro Xs a w hX hdep hC hI
    have x40 : Xs 40 = true := hdep ⟨40, .data⟩ (by simp) rfl
    have e118 := hI.gk 40 rfl x40
    go_simp
    exact hI.put' (k := 41) (d := 13) (by decide) (by simp) (by simp) (by simp) hI.wp
  · intro Xs a w hX hI
    refine hQ a w ⟨hI.size, hI.defers, ?_, hI.wp⟩
    simp only [List.mem_cons, List.not_mem_nil, or_false, forall_eq_or_imp, forall_eq]
    exact ⟨hI.gi 7 rfl, hI.gi 8 rfl, hI.gi 9 rfl, hI.gi 10 rfl, hI.gi 12 rfl, hI.gk 41 rfl (hX 41 (by simp))⟩
set_option maxRecDepth 100000 in
set_option maxHeartbeats 4000000 in
theorem tq13 (n : Nat) {G : World → Prop} (hS : Stable G) (B kk own r N i : Nat) (far l : Nat) (hi : i < N) (q0 : IntKind.i64.wrap (l : Int) = (l : Int)) (hw : IntKind.i64.wrap ((own : Int) - far) = (own : Int) - far) (hm : (if (own : Int) - far < 0 then (0 : Int) else (own : Int) - far) = (l : Int)) (la1 : ∀ w, G w → w.cell? ⟨r, i * 2 + 1, none⟩ = some (.int .u8 l)) (la0 : ∀ w, G w → w.cell? ⟨r, i * 2, none⟩ = some (.int .u8 15)) (Q : Exit → Act → World → Prop) (a : Act) (w : World) (h0 : SG [(7, .pointer (some ⟨B, 0, none⟩)), (8, .int .i64 kk), (9, .int .i64 own), (10, .slice (some ⟨r, 0, none⟩) N N), (12, .int .i64 i), (13, .int .i64 far)] 139 G a w)
    (hQ : ∀ a w, SG [(7, .pointer (some ⟨B, 0, none⟩)), (8, .int .i64 kk), (9, .int .i64 own), (10, .slice (some ⟨r, 0, none⟩) N N), (12, .int .i64 i), (137, .bool false)] 139 G a w → Q .normal a w) : (regOf 13 C6).wpIn Fence.wide n Try.prog Q a w := by
  simp only [regOf, C6, Try.f6, Option.getD, Nat.reduceBEq, Bool.false_eq_true, if_true, if_false]
  refine region_sq (fun k_ a w => match k_ with | 0 => SG [(7, .pointer (some ⟨B, 0, none⟩)), (8, .int .i64 kk), (9, .int .i64 own), (10, .slice (some ⟨r, 0, none⟩) N N), (12, .int .i64 i), (13, .int .i64 far)] 139 G a w | 1 => SG [(7, .pointer (some ⟨B, 0, none⟩)), (8, .int .i64 kk), (9, .int .i64 own), (10, .slice (some ⟨r, 0, none⟩) N N), (12, .int .i64 i), (13, .int .i64 far), (119, .slice (some ⟨r, 0, none⟩) N N)] 139 G a w | 2 => SG [(7, .pointer (some ⟨B, 0, none⟩)), (8, .int .i64 kk), (9, .int .i64 own), (10, .slice (some ⟨r, 0, none⟩) N N), (12, .int .i64 i), (13, .int .i64 far), (119, .slice (some ⟨r, 0, none⟩) N N), (120, .int .i64 i)] 139 G a w | 3 => SG [(7, .pointer (some ⟨B, 0, none⟩)), (8, .int .i64 kk), (9, .int .i64 own), (10, .slice (some ⟨r, 0, none⟩) N N), (12, .int .i64 i), (13, .int .i64 far), (121, .pointer (some ⟨r, i * 2, none⟩))] 139 G a w | 4 => SG [(7, .pointer (some ⟨B, 0, none⟩)), (8, .int .i64 kk), (9, .int .i64 own), (10, .slice (some ⟨r, 0, none⟩) N N), (12, .int .i64 i), (13, .int .i64 far), (122, .pointer (some ⟨r, i * 2 + 1, none⟩))] 139 G a w | 5 => SG [(7, .pointer (some ⟨B, 0, none⟩)), (8, .int .i64 kk), (9, .int .i64 own), (10, .slice (some ⟨r, 0, none⟩) N N), (12, .int .i64 i), (13, .int .i64 far), (123, .int .u8 l)] 139 G a w | 6 => SG [(7, .pointer (some ⟨B, 0, none⟩)), (8, .int .i64 kk), (9, .int .i64 own), (10, .slice (some ⟨r, 0, none⟩) N N), (12, .int .i64 i), (13, .int .i64 far), (124, .int .i64 l)] 139 G a w | 7 => SG [(7, .pointer (some ⟨B, 0, none⟩)), (8, .int .i64 kk), (9, .int .i64 own), (10, .slice (some ⟨r, 0, none⟩) N N), (12, .int .i64 i), (13, .int .i64 far), (124, .int .i64 l), (125, .int .i64 own)] 139 G a w | 8 => SG [(7, .pointer (some ⟨B, 0, none⟩)), (8, .int .i64 kk), (9, .int .i64 own), (10, .slice (some ⟨r, 0, none⟩) N N), (12, .int .i64 i), (124, .int .i64 l), (125, .int .i64 own), (126, .int .i64 far)] 139 G a w | 9 => SG [(7, .pointer (some ⟨B, 0, none⟩)), (8, .int .i64 kk), (9, .int .i64 own), (10, .slice (some ⟨r, 0, none⟩) N N), (12, .int .i64 i), (124, .int .i64 l), (127, .int .i64 ((own : Int) - far))] 139 G a w | 10 => SG [(7, .pointer (some ⟨B, 0, none⟩)), (8, .int .i64 kk), (9, .int .i64 own), (10, .slice (some ⟨r, 0, none⟩) N N), (12, .int .i64 i), (124, .int .i64 l), (128, .int .i64 l)] 139 G a w | 11 => SG [(7, .pointer (some ⟨B, 0, none⟩)), (8, .int .i64 kk), (9, .int .i64 own), (10, .slice (some ⟨r, 0, none⟩) N N), (12, .int .i64 i), (129, .bool false)] 139 G a w | 12 => SG [(7, .pointer (some ⟨B, 0, none⟩)), (8, .int .i64 kk), (9, .int .i64 own), (10, .slice (some ⟨r, 0, none⟩) N N), (12, .int .i64 i), (130, .bool false)] 139 G a w | 13 => SG [(7, .pointer (some ⟨B, 0, none⟩)), (8, .int .i64 kk), (9, .int .i64 own), (10, .slice (some ⟨r, 0, none⟩) N N), (12, .int .i64 i), (130, .bool false), (131, .slice (some ⟨r, 0, none⟩) N N)] 139 G a w | 14 => SG [(7, .pointer (some ⟨B, 0, none⟩)), (8, .int .i64 kk), (9, .int .i64 own), (10, .slice (some ⟨r, 0, none⟩) N N), (12, .int .i64 i), (130, .bool false), (131, .slice (some ⟨r, 0, none⟩) N N), (132, .int .i64 i)] 139 G a w | 15 => SG [(7, .pointer (some ⟨B, 0, none⟩)), (8, .int .i64 kk), (9, .int .i64 own), (10, .slice (some ⟨r, 0, none⟩) N N), (12, .int .i64 i), (130, .bool false), (133, .pointer (some ⟨r, i * 2, none⟩))] 139 G a w | 16 => SG [(7, .pointer (some ⟨B, 0, none⟩)), (8, .int .i64 kk), (9, .int .i64 own), (10, .slice (some ⟨r, 0, none⟩) N N), (12, .int .i64 i), (130, .bool false), (134, .pointer (some ⟨r, i * 2, none⟩))] 139 G a w | 17 => SG [(7, .pointer (some ⟨B, 0, none⟩)), (8, .int .i64 kk), (9, .int .i64 own), (10, .slice (some ⟨r, 0, none⟩) N N), (12, .int .i64 i), (130, .bool false), (135, .int .u8 15)] 139 G a w | 18 => SG [(7, .pointer (some ⟨B, 0, none⟩)), (8, .int .i64 kk), (9, .int .i64 own), (10, .slice (some ⟨r, 0, none⟩) N N), (12, .int .i64 i), (130, .bool false), (136, .bool false)] 139 G a w | _ => SG [(7, .pointer (some ⟨B, 0, none⟩)), (8, .int .i64 kk), (9, .int .i64 own), (10, .slice (some ⟨r, 0, none⟩) N N), (12, .int .i64 i), (137, .bool false)] 139 G a w) (show SG _ _ G a w from h0) ⟨?_, ?_, ?_, ?_, ?_, ?_, ?_, ?_, ?_, ?_, ?_, ?_, ?_, ?_, ?_, ?_, ?_, ?_, ?_, trivial⟩ ?_
  · intro a w hI
    have hI : SG _ _ G a w := hI
    have e10 := hI.g 10 rfl
    go_simp
    exact hI.put (d := 119) (by decide) (by simp) hI.wp
  · intro a w hI
    have hI : SG _ _ G a w := hI
    have e12 := hI.g 12 rfl
    go_simp
    exact hI.put (d := 120) (by decide) (by simp) hI.wp
  · intro a w hI
    have hI : SG _ _ G a w := hI
    have e119 := hI.g 119 rfl
    have e120 := hI.g 120 rfl
    have q1_2 : (0 : Int) ≤ i := by omega
    have q2_2 : (i : Int) < N := by omega
    go_simp
    exact hI.put (d := 121) (by decide) (by simp) hI.wp
  · intro a w hI
    have hI : SG _ _ G a w := hI
    have e121 := hI.g 121 rfl
    go_simp
    exact hI.put (d := 122) (by decide) (by simp) hI.wp
  · intro a w hI
    have hI : SG _ _ G a w := hI
    have e122 := hI.g 122 rfl
    have cc0 := la1 w hI.wp
    go_simp
    exact hI.put (d := 123) (by decide) (by simp) hI.wp
  · intro a w hI
    have hI : SG _ _ G a w := hI
    have e123 := hI.g 123 rfl
    go_simp
    exact hI.put (d := 124) (by decide) (by simp) hI.wp
  · intro a w hI
    have hI : SG _ _ G a w := hI
    have e9 := hI.g 9 rfl
    go_simp
    exact hI.put (d := 125) (by decide) (by simp) hI.wp
  · intro a w hI
    have hI : SG _ _ G a w := hI
    have e13 := hI.g 13 rfl
    go_simp
    exact hI.put (d := 126) (by decide) (by simp) hI.wp
  · intro a w hI
    have hI : SG _ _ G a w := hI
    have e125 := hI.g 125 rfl
    have e126 := hI.g 126 rfl
    go_simp
    exact hI.put (d := 127) (by decide) (by simp) hI.wp
  · intro a w hI
    have hI : SG _ _ G a w := hI
    have e127 := hI.g 127 rfl
    go_simp
    exact hI.put (d := 128) (by decide) (by simp) hI.wp
  · intro a w hI
    have hI : SG _ _ G a w := hI
    have e124 := hI.g 124 rfl
    have e128 := hI.g 128 rfl
    go_simp
    exact hI.put (d := 129) (by decide) (by simp) hI.wp
  · intro a w hI
    have hI : SG _ _ G a w := hI
    have e129 := hI.g 129 rfl
    go_simp
    exact hI.put (d := 130) (by decide) (by simp) hI.wp
  · intro a w hI
    have hI : SG _ _ G a w := hI
    have e10 := hI.g 10 rfl
    have e130 := hI.g 130 rfl
    have f130 := slot_bool e130
    go_simp
    exact hI.put (d := 131) (by decide) (by simp) hI.wp
  · intro a w hI
    have hI : SG _ _ G a w := hI
    have e12 := hI.g 12 rfl
    have e130 := hI.g 130 rfl
    have f130 := slot_bool e130
    go_simp
    exact hI.put (d := 132) (by decide) (by simp) hI.wp
  · intro a w hI
    have hI : SG _ _ G a w := hI
    have e131 := hI.g 131 rfl
    have e132 := hI.g 132 rfl
    have e130 := hI.g 130 rfl
    have f130 := slot_bool e130
    have q1_14 : (0 : Int) ≤ i := by omega
    have q2_14 : (i : Int) < N := by omega
    go_simp
    exact hI.put (d := 133) (by decide) (by simp) hI.wp
  · intro a w hI
    have hI : SG _ _ G a w := hI
    have e133 := hI.g 133 rfl
    have e130 := hI.g 130 rfl
    have f130 := slot_bool e130
    go_simp
    exact hI.put (d := 134) (by decide) (by simp) hI.wp
  · intro a w hI
    have hI : SG _ _ G a w := hI
    have e134 := hI.g 134 rfl
    have e130 := hI.g 130 rfl
    have f130 := slot_bool e130
    have cc0 := la0 w hI.wp
    go_simp
    exact hI.put (d := 135) (by decide) (by simp) hI.wp
  · intro a w hI
    have hI : SG _ _ G a w := hI
    have e135 := hI.g 135 rfl
    have e130 := hI.g 130 rfl
    have f130 := slot_bool e130
    go_simp
    exact hI.put (d := 136) (by decide) (by simp) hI.wp
  · intro a w hI
    have hI : SG _ _ G a w := hI
    have e130 := hI.g 130 rfl
    have e136 := hI.g 136 rfl
    go_simp
    exact hI.put (d := 137) (by decide) (by simp) hI.wp
  · intro a w hI
    have hI : SG _ _ G a w := hI
    exact hQ a w hI
set_option maxRecDepth 100000 in
set_option maxHeartbeats 4000000 in
theorem tq15 (n : Nat) {G : World → Prop} (hS : Stable G)  (hw : ∀ m w, G w → CallsIn Fence.wide m Try.prog 13 #[] w fun e w' => e = .returned (.bool true) ∧ Below w.heap.size w w') (Q : Exit → Act → World → Prop) (a : Act) (w : World) (h0 : SG [] 139 G a w)
    (hQ : ∀ a w, SG [(6, .bool true)] 139 G a w → Q .normal a w) : (regOf 15 C6).wpIn Fence.wide n Try.prog Q a w := by
  simp only [regOf, C6, Try.f6, Option.getD, Nat.reduceBEq, Bool.false_eq_true, if_true, if_false]
  refine region_sq (fun k_ a w => match k_ with | 0 => SG [] 139 G a w | 1 => SG [(138, .bool true)] 139 G a w | _ => SG [(6, .bool true)] 139 G a w) (show SG _ _ G a w from h0) ⟨?_, ?_, trivial⟩ ?_
  · intro a w hI
    have hI : SG _ _ G a w := hI
    go_simp
    refine ⟨trivial, fun h => (by cases h), (hw (n - 1) w hI.wp).mono ?_⟩
    rintro e w' ⟨rfl, hb2⟩
    exact hI.put (d := 138) (by decide) (by simp) (hS _ _ hI.wp hb2)
  · intro a w hI
    have hI : SG _ _ G a w := hI
    have e138 := hI.g 138 rfl
    go_simp
    exact hI.put (d := 6) (by decide) (by simp) hI.wp
  · intro a w hI
    have hI : SG _ _ G a w := hI
    exact hQ a w hI
noncomputable def C20 : Code := Try.f20.body.getD .skip
set_option maxRecDepth 100000 in
set_option maxHeartbeats 4000000 in
theorem gap0 (n : Nat) (W : World) (gx gy : Nat) (Q : Exit → Act → World → Prop) (a : Act) (h0 : SR [(0, .int .i64 gx), (1, .int .i64 gy)] 12 [] W a W)
    (hQ : ∀ a, SR [(0, .int .i64 gx), (1, .int .i64 gy)] 12 [] (W) a (W) → Q .normal a (W)) : (regOf 0 C20).wpIn Fence.wide n Try.prog Q a W := by
  simp only [regOf, C20, Try.f20, Option.getD, Nat.reduceBEq, Bool.false_eq_true, if_true, if_false]
  refine region_sq (fun k_ a w => match k_ with | 0 => SR [(0, .int .i64 gx), (1, .int .i64 gy)] 12 [] (W) a w | _ => SR [(0, .int .i64 gx), (1, .int .i64 gy)] 12 [] (W) a w) (show SR _ _ _ _ a W from h0) ⟨?_, trivial⟩ ?_
  · intro a w hI
    have hI : SR _ _ _ _ a w := hI
    have hw : w = W := hI.wp
    subst hw
    go_simp
    exact hI.put (d := 4) (by decide) (by simp)
  · intro a w hI
    have hI : SR _ _ _ _ a w := hI
    have hw : w = W := hI.wp
    subst hw
    exact hQ a hI
set_option maxRecDepth 100000 in
set_option maxHeartbeats 4000000 in
theorem gap1 (n : Nat) (W : World) (gx gy mx mn s : Nat) (hmx : (if gx < gy then (gy : Int) else gx) = (mx : Int)) (hmn : (if gy < gx then (gy : Int) else gx) = (mn : Int)) (h1 : IntKind.i64.wrap ((mx : Int) - mn) = (s : Int)) (Q : Exit → Act → World → Prop) (a : Act) (h0 : SR [(0, .int .i64 gx), (1, .int .i64 gy)] 12 [] W a W)
    (hQ : ∀ a, SR [(4, .int .i64 s)] 12 [] (W) a (W) → Q .normal a (W)) : (regOf 1 C20).wpIn Fence.wide n Try.prog Q a W := by
  simp only [regOf, C20, Try.f20, Option.getD, Nat.reduceBEq, Bool.false_eq_true, if_true, if_false]
  refine region_sq (fun k_ a w => match k_ with | 0 => SR [(0, .int .i64 gx), (1, .int .i64 gy)] 12 [] (W) a w | 1 => SR [(0, .int .i64 gx), (1, .int .i64 gy), (5, .int .i64 gx)] 12 [] (W) a w | 2 => SR [(0, .int .i64 gx), (1, .int .i64 gy), (5, .int .i64 gx), (6, .int .i64 gy)] 12 [] (W) a w | 3 => SR [(0, .int .i64 gx), (1, .int .i64 gy), (7, .int .i64 mx)] 12 [] (W) a w | 4 => SR [(1, .int .i64 gy), (7, .int .i64 mx), (8, .int .i64 gx)] 12 [] (W) a w | 5 => SR [(7, .int .i64 mx), (8, .int .i64 gx), (9, .int .i64 gy)] 12 [] (W) a w | 6 => SR [(7, .int .i64 mx), (10, .int .i64 mn)] 12 [] (W) a w | 7 => SR [(11, .int .i64 s)] 12 [] (W) a w | _ => SR [(4, .int .i64 s)] 12 [] (W) a w) (show SR _ _ _ _ a W from h0) ⟨?_, ?_, ?_, ?_, ?_, ?_, ?_, ?_, trivial⟩ ?_
  · intro a w hI
    have hI : SR _ _ _ _ a w := hI
    have e0 := hI.g 0 rfl
    have hw : w = W := hI.wp
    subst hw
    go_simp
    exact hI.put (d := 5) (by decide) (by simp)
  · intro a w hI
    have hI : SR _ _ _ _ a w := hI
    have e1 := hI.g 1 rfl
    have hw : w = W := hI.wp
    subst hw
    go_simp
    exact hI.put (d := 6) (by decide) (by simp)
  · intro a w hI
    have hI : SR _ _ _ _ a w := hI
    have e5 := hI.g 5 rfl
    have e6 := hI.g 6 rfl
    have hw : w = W := hI.wp
    subst hw
    go_simp
    exact hI.put (d := 7) (by decide) (by simp)
  · intro a w hI
    have hI : SR _ _ _ _ a w := hI
    have e0 := hI.g 0 rfl
    have hw : w = W := hI.wp
    subst hw
    go_simp
    exact hI.put (d := 8) (by decide) (by simp)
  · intro a w hI
    have hI : SR _ _ _ _ a w := hI
    have e1 := hI.g 1 rfl
    have hw : w = W := hI.wp
    subst hw
    go_simp
    exact hI.put (d := 9) (by decide) (by simp)
  · intro a w hI
    have hI : SR _ _ _ _ a w := hI
    have e8 := hI.g 8 rfl
    have e9 := hI.g 9 rfl
    have hw : w = W := hI.wp
    subst hw
    go_simp
    exact hI.put (d := 10) (by decide) (by simp)
  · intro a w hI
    have hI : SR _ _ _ _ a w := hI
    have e7 := hI.g 7 rfl
    have e10 := hI.g 10 rfl
    have hw : w = W := hI.wp
    subst hw
    go_simp
    exact hI.put (d := 11) (by decide) (by simp)
  · intro a w hI
    have hI : SR _ _ _ _ a w := hI
    have e11 := hI.g 11 rfl
    have hw : w = W := hI.wp
    subst hw
    go_simp
    exact hI.put (d := 4) (by decide) (by simp)
  · intro a w hI
    have hI : SR _ _ _ _ a w := hI
    have hw : w = W := hI.wp
    subst hw
    exact hQ a hI
/-! ### One torch in a box of Air -/
namespace Glow
def gapN (a b : Nat) : Nat := (a - b) + (b - a)
def dst (X Z i k : Nat) : Nat := gapN (i % X) (k % X) + gapN (i / X % Z) (k / X % Z) + gapN (i / X / Z) (k / X / Z)
theorem gapN_le {a b m : Nat} (ha : a < m) (hb : b < m) : gapN a b ≤ m := by unfold gapN; omega
theorem dst_enc {X Z x z y a c b : Nat} (hx : x < X) (hz : z < Z) (ha : a < X) (hc : c < Z) : dst X Z (enc X Z x z y) (enc X Z a c b) = gapN x a + gapN z c + gapN y b := by
  unfold dst; rw [enc_x hx, enc_z hx hz, enc_y hx hz, enc_x ha, enc_z ha hc, enc_y ha hc]
theorem coordsT {X Y Z i : Nat} (h : i < X * Y * Z) : ∃ x z y, x < X ∧ z < Z ∧ y < Y ∧ i = enc X Z x z y := by
  obtain ⟨h1, h2, h3⟩ := dec_lt h
  exact ⟨_, _, _, h1, h2, h3, (enc_eq X Z i).symm⟩
theorem dst_side {X Y Z i k s : Nat} (hi : i < X * Y * Z) (hk : k < X * Y * Z) (hs : s ∈ sides X Y Z i) : dst X Z i k ≤ dst X Z s k + 1 := by
  obtain ⟨x, z, y, hx, hz, hy, rfl⟩ := coordsT hi
  obtain ⟨a, c, b, ha, hc, hb, rfl⟩ := coordsT hk
  rw [dst_enc hx hz ha hc]
  rcases (mem_sides hx hz).1 hs with ⟨h1, rfl⟩ | ⟨k, rfl, rfl⟩ | ⟨h1, rfl⟩ | ⟨k, rfl, rfl⟩ | ⟨h1, rfl⟩ | ⟨k, rfl, rfl⟩
  · rw [dst_enc h1 hz ha hc]; unfold gapN; omega
  · rw [dst_enc (by omega) hz ha hc]; unfold gapN; omega
  · rw [dst_enc hx h1 ha hc]; unfold gapN; omega
  · rw [dst_enc hx (by omega) ha hc]; unfold gapN; omega
  · rw [dst_enc hx hz ha hc]; unfold gapN; omega
  · rw [dst_enc hx hz ha hc]; unfold gapN; omega
theorem dst_near {X Y Z i k : Nat} (hi : i < X * Y * Z) (hk : k < X * Y * Z) (hd : dst X Z i k ≠ 0) : ∃ s ∈ sides X Y Z i, dst X Z s k + 1 = dst X Z i k := by
  obtain ⟨x, z, y, hx, hz, hy, rfl⟩ := coordsT hi
  obtain ⟨a, c, b, ha, hc, hb, rfl⟩ := coordsT hk
  rw [dst_enc hx hz ha hc] at hd ⊢
  by_cases e1 : x < a
  · exact ⟨_, (mem_sides hx hz).2 (.inl ⟨by omega, rfl⟩), by rw [dst_enc (by omega) hz ha hc]; unfold gapN; omega⟩
  by_cases e2 : a < x
  · obtain ⟨x, rfl⟩ : ∃ x', x = x' + 1 := ⟨x - 1, by omega⟩
    exact ⟨_, (mem_sides hx hz).2 (.inr (.inl ⟨x, rfl, rfl⟩)), by rw [dst_enc (by omega) hz ha hc]; unfold gapN; omega⟩
  by_cases e3 : z < c
  · exact ⟨_, (mem_sides hx hz).2 (.inr (.inr (.inl ⟨by omega, rfl⟩))), by rw [dst_enc hx (by omega) ha hc]; unfold gapN; omega⟩
  by_cases e4 : c < z
  · obtain ⟨z, rfl⟩ : ∃ z', z = z' + 1 := ⟨z - 1, by omega⟩
    exact ⟨_, (mem_sides hx hz).2 (.inr (.inr (.inr (.inl ⟨z, rfl, rfl⟩)))), by rw [dst_enc hx (by omega) ha hc]; unfold gapN; omega⟩
  by_cases e5 : y < b
  · exact ⟨_, (mem_sides hx hz).2 (.inr (.inr (.inr (.inr (.inl ⟨by omega, rfl⟩))))), by rw [dst_enc hx hz ha hc]; unfold gapN; omega⟩
  by_cases e6 : b < y
  · obtain ⟨y, rfl⟩ : ∃ y', y = y' + 1 := ⟨y - 1, by omega⟩
    exact ⟨_, (mem_sides hx hz).2 (.inr (.inr (.inr (.inr (.inr ⟨y, rfl, rfl⟩))))), by rw [dst_enc hx hz ha hc]; unfold gapN; omega⟩
  · exfalso; apply hd; unfold gapN; omega
theorem dst_zero {X Y Z i k : Nat} (hi : i < X * Y * Z) (hk : k < X * Y * Z) : dst X Z i k = 0 ↔ i = k := by
  obtain ⟨x, z, y, hx, hz, hy, rfl⟩ := coordsT hi
  obtain ⟨a, c, b, ha, hc, hb, rfl⟩ := coordsT hk
  rw [dst_enc hx hz ha hc]
  constructor
  · intro h
    have h1 : x = a := by unfold gapN at h; omega
    have h2 : z = c := by unfold gapN at h; omega
    have h3 : y = b := by unfold gapN at h; omega
    rw [h1, h2, h3]
  · intro h
    have e1 := congrArg (· % X) h
    have e2 := congrArg (· / X % Z) h
    have e3 := congrArg (· / X / Z) h
    simp only [enc_x hx, enc_x ha] at e1
    simp only [enc_z hx hz, enc_z ha hc] at e2
    simp only [enc_y hx hz, enc_y ha hc] at e3
    subst e1 e2 e3
    unfold gapN; omega
/-- **A torch's light in the open.** -/
theorem torch_fix {X Y Z N k own : Nat} (hN : X * Y * Z = N) (hk : k < N) {cl : Nat → Bool} {lm : Nat → Nat} (hc : ∀ i, i < N → cl i = true) (hl : ∀ i, i < N → lm i = if i = k then own else 0) :
    Fix (sides X Y Z) cl lm N fun i => own - dst X Z i k := by
  subst hN
  intro i hi
  show own - dst X Z i k = _
  rw [if_pos (hc i hi), hl i hi]
  have hup : up (sides X Y Z) (fun i => own - dst X Z i k) i ≤ own - dst X Z i k := by
    rcases up_of (sides X Y Z) (fun i => own - dst X Z i k) i with e | ⟨s, hs, e⟩
    · omega
    · have := dst_side hi hk hs
      have e : up (sides X Y Z) (fun i => own - dst X Z i k) i = own - dst X Z s k - 1 := e
      omega
  by_cases e : i = k
  · have h0 := (dst_zero hi hk).2 e
    rw [if_pos e]
    omega
  · have h0 : dst X Z i k ≠ 0 := fun h => e ((dst_zero hi hk).1 h)
    obtain ⟨s, hs, hd⟩ := dst_near hi hk h0
    have : own - dst X Z s k - 1 ≤ up (sides X Y Z) (fun i => own - dst X Z i k) i := le_up (V := fun i => own - dst X Z i k) hs
    rw [if_neg e]
    omega
end Glow
/-! ### GlowTorch -/
theorem wmulT {a b : Nat} (h : a * b ≤ 9000000000) : IntKind.i64.wrap ((a : Int) * b) = ((a * b : Nat) : Int) := by
  rw [Int.natCast_mul]; exact IntWalk.i64_in _ (by rw [← Int.natCast_mul]; omega)
theorem waddT {a b : Nat} (h : a + b ≤ 9000000000) : IntKind.i64.wrap ((a : Int) + b) = ((a + b : Nat) : Int) := by
  rw [Int.natCast_add]; exact IntWalk.i64_in _ (by omega)
theorem wadd1T {b : Nat} (h : b ≤ 9000000000) : IntKind.i64.wrap (1 + (b : Int)) = ((1 + b : Nat) : Int) := by
  rw [Int.natCast_add]; exact IntWalk.i64_in _ (by omega)
theorem widT {b : Nat} (h : b ≤ 9000000000) : IntKind.i64.wrap (b : Int) = (b : Int) := IntWalk.i64_in _ (by omega)
theorem wdivT {a b : Nat} (h : a ≤ 9000000000) : IntKind.i64.wrap ((a : Int) / b) = ((a / b : Nat) : Int) := by
  have : a / b ≤ a := Nat.div_le_self _ _
  rw [← Int.natCast_ediv]
  generalize a / b = q at *
  exact IntWalk.i64_in _ (by omega)
theorem tmodT (a b : Nat) : Int.tmod (a : Int) b = ((a % b : Nat) : Int) := rfl
theorem C20_eq : C20 = .seq (regOf 0 C20) (.seq (regOf 1 C20) .ret) := by kernel_rfl
theorem gap_in (n : Nat) (w : World) (x y : Nat) (hx : x ≤ 9000000000) (hy : y ≤ 9000000000) : CallsIn Fence.wide n Try.prog 20 #[.int .i64 x, .int .i64 y] w fun e w' => e = .returned (.int .i64 (Glow.gapN x y : Nat)) ∧ Below w.heap.size w w' := by
  refine callsIn_of_wp Try.func20 rfl trivial ?_
  show C20.wpIn _ _ _ _ _ _
  rw [C20_eq]
  refine wpIn_seq (gap0 n w x y _ _ ⟨by simp [Try.ntmps20], rfl, by simp [Try.ntmps20], rfl⟩ ?_)
  intro a1 h1
  refine wpIn_seq (gap1 n w x y (max x y) (min x y) (Glow.gapN x y) (by split <;> omega) (by split <;> omega) (by rw [IntWalk.i64_in _ (by omega)]; unfold Glow.gapN; omega) _ a1 h1 ?_)
  intro a2 h2
  exact wpIn_ret ⟨h2.defers, _, results_tmp (t := 4) rfl _ _ _, by rw [Array.getD_eq_getD_getElem?, h2.kn (4, .int .i64 (Glow.gapN x y : Nat)) (by simp)], Below.refl _ _⟩
def updA (A : Nat → Int) (p : Nat) (a b : Int) (j : Nat) : Int := if j = p * 2 then a else if j = p * 2 + 1 then b else A j
theorem kd_upd (A : Nat → Int) (p : Nat) (a b : Int) (s : Nat) : kd (updA A p a b) s = if s = p then a.toNat else kd A s := by
  unfold kd updA
  by_cases e : s = p
  · subst e; simp
  · rw [if_neg (by omega), if_neg (by omega), if_neg e]
theorem lv_upd (A : Nat → Int) (p : Nat) (a b : Int) (s : Nat) : lv (updA A p a b) s = if s = p then b.toNat else lv A s := by
  unfold lv updA
  by_cases e : s = p
  · subst e; rw [if_neg (by omega)]; simp
  · rw [if_neg (by omega), if_neg (by omega), if_neg e]
theorem made_get {N j : Nat} (hj : j < N * 2) : (madeCells #[.int .u8 0, .int .u8 0] (N * 2))[j]? = some (.int .u8 0) := by
  have : j % 2 = 0 ∨ j % 2 = 1 := by omega
  rcases this with e | e <;> simp [madeCells, hj, e]
theorem updA_get {c : Array Value} {N p : Nat} {a b : Int} {A : Nat → Int} (hs : c.size = N * 2) (hc : ∀ j, j < N * 2 → c[j]? = some (.int .u8 (A j))) (hp : p < N) {j : Nat} (hj : j < N * 2) :
    ((c.setIfInBounds (p * 2) (.int .u8 a)).setIfInBounds (p * 2 + 1) (.int .u8 b))[j]? = some (.int .u8 (updA A p a b j)) := by
  unfold updA
  rw [Array.getElem?_setIfInBounds, Array.getElem?_setIfInBounds]
  by_cases e1 : j = p * 2
  · rw [if_neg (by omega), if_pos e1.symm, if_pos e1, if_pos (by omega)]
  · rw [if_neg e1]
    by_cases e2 : j = p * 2 + 1
    · rw [if_pos e2.symm, if_pos e2, if_pos (by rw [Array.size_setIfInBounds]; omega)]
    · rw [if_neg (Ne.symm e2), if_neg (Ne.symm e1), if_neg e2]
      exact hc j hj
theorem torch_kind : ∀ o, o < 16 → 1 ≤ o → (K.may 11 (o : Nat) && K.clear 11) = true ∧ (K.lamp 11 (o : Nat)).toNat = o := by decide
noncomputable def Bd6 : Code := .seq (regOf 12 C6) (.seq (regOf 13 C6) (.cond (.tmp 137) (.seq (regOf 14 C6) .ret) .skip))
noncomputable def Lp6 : Code := .seq (.seq (regOf 10 C6) (.cond (.tmp 75) .skip (.exit 0))) (.seq (.block 1 Bd6) (regOf 11 C6))
theorem C6_eq : C6 = .seq (regOf 0 C6) (.seq (regOf 1 C6) (.seq (regOf 2 C6) (.seq (regOf 3 C6) (.seq (regOf 4 C6) (.seq (regOf 5 C6) (.seq (regOf 6 C6) (.seq (.seq (regOf 7 C6) (.cond (.tmp 71) (.seq (regOf 8 C6) .ret) .skip)) (.seq (.seq (regOf 9 C6) (.block 0 (.loop Lp6))) (.seq (regOf 15 C6) .ret))))))))) := by kernel_rfl
abbrev A12 (B kk own r N i : Nat) : List (Nat × Value) := [(7, .pointer (some ⟨B, 0, none⟩)), (8, .int .i64 kk), (9, .int .i64 own), (10, .slice (some ⟨r, 0, none⟩) N N), (12, .int .i64 i)]
set_option maxHeartbeats 1000000 in
theorem torch_loop (n : Nat) {G : World → Prop} (hS : Stable G) {B kk own r X Y Z N : Nat} (hX : 1 ≤ X ∧ X ≤ 16) (hY : 1 ≤ Y ∧ Y ≤ 16) (hZ : 1 ≤ Z ∧ Z ≤ 16) (hNe : N = X * Y * Z) (hN : N ≤ 4096) (hk : kk < N) (ho : own ≤ 15)
    (b0 : ∀ w, G w → w.cell? ⟨B, 0, none⟩ = some (.int .i64 X)) (b2 : ∀ w, G w → w.cell? ⟨B, 2, none⟩ = some (.int .i64 Z))
    (a1 : ∀ i, i < N → ∀ w, G w → w.cell? ⟨r, i * 2, none⟩ = some (.int .u8 15)) (a2 : ∀ i, i < N → ∀ w, G w → w.cell? ⟨r, i * 2 + 1, none⟩ = some (.int .u8 (own - Glow.dst X Z i kk : Nat)))
    (a : Act) (w : World) (ha : SG (A12 B kk own r N 0) 139 G a w) (Q : Exit → Act → World → Prop) (hQ : ∀ a w, SG [] 139 G a w → Q .normal a w) : (Code.block 0 (.loop Lp6)).wpIn Fence.wide n Try.prog Q a w := by
  refine wpIn_block (wpIn_loop (fun a w => ∃ i, i ≤ N ∧ SG (A12 B kk own r N i) 139 G a w) (fun a _ => N - slotN 12 a) ⟨0, Nat.zero_le _, ha⟩ ?_)
  rintro a w ⟨i, hin, ha⟩
  have e5 := ha.slot (t := 12) (v := i) (k := .i64) (by simp)
  have hG := ha.wp
  unfold Lp6
  refine wpIn_seq (wpIn_seq (tq10 n w B kk own r N i _ a ha.sr ?_))
  intro a1' h1
  have h1 := h1.sg hG
  refine wpIn_cond (t := decide (i < N)) (by rw [eval_tmp]; exact h1.kn (75, _) (by simp)) ?_
  by_cases hlt : i < N
  · rw [decide_eq_true hlt]
    refine wpIn_skip (wpIn_seq (wpIn_block ?_))
    have hX0 : ¬ X = 0 := by omega
    have hZ0 : ¬ Z = 0 := by omega
    have di := Glow.dec_lt (show i < X * Y * Z by rw [← hNe]; exact hlt)
    have dk := Glow.dec_lt (show kk < X * Y * Z by rw [← hNe]; exact hk)
    have bq : ∀ t, t < N → t / X ≤ 4096 := fun t ht => by have := Nat.div_le_self t X; omega
    have bi := bq i hlt
    have bk := bq kk hk
    have e1l : Glow.gapN (i % X) (kk % X) ≤ 16 := Nat.le_trans (Glow.gapN_le di.1 dk.1) hX.2
    have e2l : Glow.gapN (i / X % Z) (kk / X % Z) ≤ 16 := Nat.le_trans (Glow.gapN_le di.2.1 dk.2.1) hZ.2
    have e3l : Glow.gapN (i / X / Z) (kk / X / Z) ≤ 16 := Nat.le_trans (Glow.gapN_le di.2.2 dk.2.2) hY.2
    unfold Bd6
    refine wpIn_seq (tq12 n hS B kk own r N i X Z (i % X) (i / X) (i / X % Z) (i / X / Z) (kk % X) (kk / X) (kk / X % Z) (kk / X / Z) (Glow.gapN (i % X) (kk % X)) (Glow.gapN (i / X % Z) (kk / X % Z)) (Glow.gapN (i / X / Z) (kk / X / Z))
      (Glow.gapN (i % X) (kk % X) + Glow.gapN (i / X % Z) (kk / X % Z)) (Glow.dst X Z i kk) hX0 hZ0 (tmodT _ _) (wdivT (by omega)) (tmodT _ _) (wdivT (by omega)) (tmodT _ _) (wdivT (by omega)) (tmodT _ _) (wdivT (by omega)) (waddT (by omega)) (waddT (by omega))
      b0 b2 (fun m w _ => gap_in m w _ _ (by omega) (by omega)) (fun m w _ => gap_in m w _ _ (by omega) (by omega)) (fun m w _ => gap_in m w _ _ (by omega) (by omega)) _ a1' w (h1.sub (by simp)) ?_)
    intro a2' w2 h2
    have hd : Glow.dst X Z i kk ≤ 48 := by unfold Glow.dst; omega
    refine wpIn_seq (tq13 n hS B kk own r N i (Glow.dst X Z i kk) (own - Glow.dst X Z i kk) hlt (widT (by omega)) (IntWalk.i64_in _ (by omega)) (by split <;> omega) (a2 i hlt) (a1 i hlt) _ a2' w2 h2 ?_)
    intro a3 w3 h3
    have hG3 := h3.wp
    refine wpIn_cond (t := false) (by rw [eval_tmp]; exact h3.kn (137, .bool false) (by simp)) (wpIn_skip ?_)
    show (regOf 11 C6).wpIn _ _ _ _ _ _
    refine tq11 n w3 B kk own r N i (by omega) _ a3 (h3.sub (by simp)).sr ?_
    intro a6 h6
    have h6 : SG (A12 B kk own r N (i + 1)) 139 G a6 w3 := h6.sg hG3
    exact ⟨⟨i + 1, hlt, h6⟩, by rw [e5, h6.slot (t := 12) (v := i + 1) (k := .i64) (by simp)]; omega⟩
  · rw [decide_eq_false hlt]
    exact wpIn_exit (hQ a1' w (h1.sub (by simp)))
set_option maxHeartbeats 1000000 in
theorem torch_in (n : Nat) (W0 : World) (s0 s1 s2 u v : Nat) (h0 : s0 ≤ 255) (h1 : s1 ≤ 255) (h2 : s2 ≤ 255) (hu : u ≤ 65535) (hv : v ≤ 255) : CallsIn Fence.wide n Try.prog 6 #[.agg #[.int .u8 s0, .int .u8 s1, .int .u8 s2], .int .u16 u, .int .u8 v] W0 fun e w' => e = .returned (.bool true) ∧ Below W0.heap.size W0 w' := by
  refine callsIn_of_wp Try.func6 rfl trivial ?_
  show C6.wpIn _ _ _ _ _ _
  rw [C6_eq]
  refine wpIn_seq ?_
  refine tq0 n W0 s0 s1 s2 u v _ _ ⟨by simp [Try.ntmps6], rfl, by simp [Try.ntmps6], rfl⟩ ?_
  intro a1 hs1
  have hH := (Has.start W0).alloc (.cells #[.int .u8 s0, .int .u8 s1, .int .u8 s2] 42)
  generalize W0.alloc (.cells #[.int .u8 s0, .int .u8 s1, .int .u8 s2] 42) = W1 at hs1 hH ⊢
  obtain ⟨S, hS⟩ : ∃ S, S = W0.heap.size := ⟨_, rfl⟩
  rw [← hS] at hs1 hH
  have ret : ∀ bs a w, SG [(6, .bool true)] 139 (Has W0 bs) a w → bodyPost Try.prog Try.f6 (fun e w' => e = .returned (.bool true) ∧ Below W0.heap.size W0 w') .ret a w := fun bs a w h =>
    ⟨h.defers, _, results_tmp (t := 6) rfl _ _ _, by rw [Array.getD_eq_getD_getElem?, h.kn (6, .bool true) (by simp)], h.wp.bel⟩
  obtain ⟨X, hX⟩ : ∃ X, X = 1 + s0 % 16 := ⟨_, rfl⟩
  obtain ⟨Y, hY⟩ : ∃ Y, Y = 1 + s1 % 16 := ⟨_, rfl⟩
  obtain ⟨Z, hZ⟩ : ∃ Z, Z = 1 + s2 % 16 := ⟨_, rfl⟩
  obtain ⟨N, hNe⟩ : ∃ N, N = X * Y * Z := ⟨_, rfl⟩
  have bX : 1 ≤ X ∧ X ≤ 16 := by omega
  have bY : 1 ≤ Y ∧ Y ≤ 16 := by omega
  have bZ : 1 ≤ Z ∧ Z ≤ 16 := by omega
  have bXY : X * Y ≤ 256 := Nat.mul_le_mul bX.2 bY.2
  have bN : N ≤ 4096 := by rw [hNe]; exact Nat.mul_le_mul bXY bZ.2
  have bN1 : 1 ≤ N := by rw [hNe]; exact Nat.mul_le_mul (Nat.mul_le_mul bX.1 bY.1) bZ.1
  obtain ⟨kk, hk⟩ : ∃ kk, kk = u % N := ⟨_, rfl⟩
  have bk : kk < N := by rw [hk]; exact Nat.mod_lt _ bN1
  obtain ⟨own, ho⟩ : ∃ own, own = 1 + v % 15 := ⟨_, rfl⟩
  have bo : 1 ≤ own ∧ own ≤ 15 := by omega
  refine wpIn_seq (tq1 n W1 S u v s0 s1 s2 (s0 % 16) (s1 % 16) (s2 % 16) X Y Z (tmodT _ 16) (widT (by omega)) (by rw [hX]; exact wadd1T (by omega)) (tmodT _ 16) (widT (by omega)) (by rw [hY]; exact wadd1T (by omega)) (tmodT _ 16) (widT (by omega)) (by rw [hZ]; exact wadd1T (by omega))
    (hH.cell List.mem_cons_self rfl) (hH.cell List.mem_cons_self rfl) (hH.cell List.mem_cons_self rfl) _ a1 hs1 ?_)
  intro a2 hs2
  have hH2 := hH.alloc (.cells #[.int .i64 X, .int .i64 Y, .int .i64 Z, .slice none 0 0] 24)
  generalize W1.alloc (.cells #[.int .i64 X, .int .i64 Y, .int .i64 Z, .slice none 0 0] 24) = W2 at hs2 hH2 ⊢
  generalize W1.heap.size = B at hs2 hH2
  refine wpIn_seq (tq2 n B u v X Y Z (X * Y) N (wmulT (by omega)) (by rw [wmulT (by rw [← hNe]; omega), hNe]) (fun w hh => hh.cell List.mem_cons_self rfl) (fun w hh => hh.cell List.mem_cons_self rfl) (fun w hh => hh.cell List.mem_cons_self rfl) (by omega)
    (fun g2 => Has W0 ((g2, .cells (madeCells #[.int .u8 0, .int .u8 0] (N * 2)) 32 (0, 0)) :: (B, .cells #[.int .i64 X, .int .i64 Y, .int .i64 Z, .slice none 0 0] 24 (0, 0)) :: [(S, .cells #[.int .u8 s0, .int .u8 s1, .int .u8 s2] 42 (0, 0))])) (fun w hh => hh.alloc _)
    (fun g2 => Has W0 ((g2, .cells (madeCells #[.int .u8 0, .int .u8 0] (N * 2)) 32 (0, 0)) :: (B, .cells #[.int .i64 X, .int .i64 Y, .int .i64 Z, .slice (some ⟨g2, 0, none⟩) N N] 24 (0, 0)) :: [(S, .cells #[.int .u8 s0, .int .u8 s1, .int .u8 s2] 42 (0, 0))]))
    (fun g2 w hh => ⟨_, hh.swap.cell (j := 3) List.mem_cons_self rfl⟩) (fun g2 w hh => hh.swap.unfrozen List.mem_cons_self 3) (fun g2 w hh => by have := (hh.swap.set (m := 3) (.slice (some ⟨g2, 0, none⟩) N N)).swap; simpa using this) _ a2 W2 (hs2.sg hH2) ?_)
  intro g2 a3 w3 hs3
  have hG3 := hs3.wp
  refine wpIn_seq (tq3 n w3 B u v g2 N kk (by omega) (widT (by omega)) (by rw [hk]; exact tmodT _ _) (hG3.swap.cell List.mem_cons_self rfl) _ a3 hs3.sr ?_)
  intro a4 hs4
  refine wpIn_seq (tq4 n w3 B v kk (v % 15) own (tmodT _ 15) (widT (by omega)) (by rw [ho]; exact wadd1T (by omega)) _ a4 hs4 ?_)
  intro a5 hs5
  obtain ⟨c', hc'⟩ : ∃ c', c' = ((madeCells #[.int .u8 0, .int .u8 0] (N * 2)).setIfInBounds (kk * 2) (.int .u8 11)).setIfInBounds (kk * 2 + 1) (.int .u8 own) := ⟨_, rfl⟩
  refine wpIn_seq (tq5 n (G1 := Has W0 ((g2, .cells c' 32 (0, 0)) :: (B, .cells #[.int .i64 X, .int .i64 Y, .int .i64 Z, .slice (some ⟨g2, 0, none⟩) N N] 24 (0, 0)) :: [(S, .cells #[.int .u8 s0, .int .u8 s1, .int .u8 s2] 42 (0, 0))])) B kk own g2 N bk (IntWalk.u8_in _ (by omega))
    (fun w hh => hh.swap.cell List.mem_cons_self rfl) (fun w hh => ⟨⟨_, hh.cell List.mem_cons_self (made_get (by omega))⟩, ⟨_, hh.cell List.mem_cons_self (made_get (by omega))⟩⟩) (fun w hh => ⟨hh.unfrozen List.mem_cons_self _, hh.unfrozen List.mem_cons_self _⟩)
    (fun w hh => by rw [hc']; exact (hh.set (m := kk * 2) (.int .u8 11)).set (m := kk * 2 + 1) (.int .u8 own)) _ a5 w3 (hs5.sg hG3) ?_)
  intro a6 w6 hs6
  obtain ⟨A, hA⟩ : ∃ A, A = updA (fun _ => 0) kk 11 own := ⟨_, rfl⟩
  have hrow : ∀ {bs w}, Has W0 bs w → (g2, Obj.cells c' 32 (0, 0)) ∈ bs → Row2 w g2 0 N A := fun hh hm => {
    lt := hh.lt hm
    cell := fun j hj => by
      rw [Nat.zero_add, hA]
      refine hh.cell hm ?_
      rw [hc']
      exact updA_get (size_madeCells _ _) (fun j hj => made_get hj) bk hj
    rng := fun j hj => by
      rw [hA]; unfold updA
      split
      · omega
      · split
        · omega
        · exact ⟨by show (0 : Int) ≤ 0; decide, by show (0 : Int) ≤ 255; decide⟩ }
  refine wpIn_seq (tq6 n B kk own g2 N X Y Z (fun r => Has W0 ((r, .cells (pairsV (skyL X Y Z (clA A)) (lampL X Y Z (clA A) (lmA A)) N N) 37 (0, 0)) :: (g2, .cells c' 32 (0, 0)) :: (B, .cells #[.int .i64 X, .int .i64 Y, .int .i64 Z, .slice (some ⟨g2, 0, none⟩) N N] 24 (0, 0)) :: [(S, .cells #[.int .u8 s0, .int .u8 s1, .int .u8 s2] 42 (0, 0))]))
    (fun w hh => hh.swap.cell List.mem_cons_self rfl) (fun w hh => hh.swap.cell List.mem_cons_self rfl) (fun w hh => hh.swap.cell List.mem_cons_self rfl) (fun w hh => hh.swap.cell List.mem_cons_self rfl)
    (fun m w hh => light_has m (hrow hh List.mem_cons_self) (by omega) (by omega) (by omega) hNe (by omega) hh) _ a6 w6 hs6 ?_)
  intro r a7 w7 hs7
  have hG7 := hs7.wp
  have cb : ∀ {w}, Has W0 ((r, .cells (pairsV (skyL X Y Z (clA A)) (lampL X Y Z (clA A) (lmA A)) N N) 37 (0, 0)) :: (g2, .cells c' 32 (0, 0)) :: (B, .cells #[.int .i64 X, .int .i64 Y, .int .i64 Z, .slice (some ⟨g2, 0, none⟩) N N] 24 (0, 0)) :: [(S, .cells #[.int .u8 s0, .int .u8 s1, .int .u8 s2] 42 (0, 0))]) w → ∀ {k v}, (#[.int .i64 X, .int .i64 Y, .int .i64 Z, .slice (some ⟨g2, 0, none⟩) N N] : Array Value)[k]? = some v → w.cell? ⟨B, k, none⟩ = some v := fun hh _ _ hv => hh.cell (t := 24) (fr := (0, 0)) (List.mem_cons_of_mem _ (List.mem_cons_of_mem _ List.mem_cons_self)) hv
  refine wpIn_seq (wpIn_seq (tq7 n w7 B kk own r g2 N (cb hG7 rfl) _ a7 hs7.sr ?_))
  intro a8 hs8
  refine wpIn_cond (t := false) (by rw [eval_tmp]; exact hs8.kn (71, .bool false) (by simp)) (wpIn_skip ?_)
  refine wpIn_seq (wpIn_seq (tq9 n w7 B kk own r N _ a8 (hs8.sub (by simp)) ?_))
  intro a9 hs9
  have tk := torch_kind own (by omega) bo.1
  have hkd : ∀ i, kd A i = if i = kk then 11 else 0 := fun i => by rw [hA, kd_upd]; rfl
  have hlv : ∀ i, lv A i = if i = kk then own else 0 := fun i => by rw [hA, lv_upd, Int.toNat_natCast]; rfl
  have hcl : ∀ i, clA A i = true := fun i => by
    unfold clA
    rw [hkd, hlv]
    by_cases e : i = kk
    · rw [if_pos e, if_pos e]; exact tk.1
    · rw [if_neg e, if_neg e]; decide
  have hlm : ∀ i, lmA A i = if i = kk then own else 0 := fun i => by
    unfold lmA
    rw [hkd, hlv]
    by_cases e : i = kk
    · rw [if_pos e, if_pos e]; exact tk.2
    · rw [if_neg e, if_neg e]; decide
  have sf := sky_fix (cl := clA A) hNe.symm
  have lf := lamp_fix (cl := clA A) hNe.symm (lmA_le A)
  have hsky : ∀ i, i < N → (skyL X Y Z (clA A)).getD i 0 = 15 := fun i hi => by
    have k1 : (skyL X Y Z (clA A)).getD i 0 = _ := sf.2 i hi
    have k2 := sf.1 i
    have k3 : skyS (clA A) (X * Z) Y i = 15 := by unfold skyS; rw [if_pos ((skyS_iff hNe.symm bX.1 bZ.1 hi).1 fun m _ => hcl _)]
    rw [if_pos (hcl i), k3] at k1
    have k4 : 15 ≤ (skyL X Y Z (clA A)).getD i 0 := by rw [k1]; exact Nat.le_max_left _ _
    omega
  have hlamp : ∀ i, i < N → (lampL X Y Z (clA A) (lmA A)).getD i 0 = own - Glow.dst X Z i kk := fun i hi =>
    lf.2.unique (Glow.torch_fix hNe.symm bk (fun i _ => hcl i) (fun i _ => hlm i)) (fun i _ => lf.1 i) (fun i _ => by omega) (fun i hi s hs => by have := (Glow.sides_sym X Y Z i s (by rw [← hNe]; exact hi) hs).1; rwa [← hNe] at this) i hi
  refine torch_loop n (Has.stable _ _) bX bY bZ hNe bN bk bo.2 (fun w hh => cb hh rfl) (fun w hh => cb hh rfl)
    (fun i hi w hh => by have := hh.cell List.mem_cons_self (pair_sky (skyL X Y Z (clA A)) (lampL X Y Z (clA A) (lmA A)) hi); rw [hsky i hi] at this; exact this)
    (fun i hi w hh => by have := hh.cell List.mem_cons_self (pair_lamp (skyL X Y Z (clA A)) (lampL X Y Z (clA A) (lmA A)) hi); rw [hlamp i hi] at this; exact this) a9 w7 (hs9.sg hG7) _ ?_
  intro a10 w10' hs10
  refine wpIn_seq (tq15 n (Has.stable _ _) (fun m w _ => works_in m w) _ a10 w10' hs10 ?_)
  intro a11 w11' hs11
  exact wpIn_ret (ret _ a11 w11' hs11)
end Go.Proofs.Ytmgiabehooghcaa
