/- Glow: the walk of a law. -/
import Derived.RangeFuncNested
import Derived.RangeFuncBound
import Derived.RangeFuncCalls
import Derived.RangeFuncLeaves
import Derived.Shelf.Abstract
import Derived.Shelf.RegionOpen
import Derived.WalkKit
import Derived.OwnWalkIn
import Derived.TacticsInMore
import Derived.LoopNIn
import Derived.LoopIn
import Derived.Lib.Hide
import Derived.IntWalk
import Derived.Maps.AppendAt
import Derived.Test.YtmgiabehooghcaaKc
import Derived.Test.YtmgiabehooghcaaGin
import Derived.Test.YtmgiabehooghcaaNp
set_option linter.unusedVariables false
set_option linter.unusedSimpArgs false
set_option maxRecDepth 100000
set_option maxHeartbeats 4000000
namespace Go.Proofs.Ytmgiabehooghcaa
open Go.RowKit Go.Shelf
attribute [local go_sem] Oper.semAt_some

noncomputable def C28 : Code := Try.f28.body.getD .skip
theorem sr0 (n : Nat) (W : World) (X Y Z : Int) (cv : Value) (Q : Po) (a : Act) (h0 : SR [(0, .agg #[(ii X), (ii Y), (ii Z), cv])] 53 [] W a W)
    (hQ : ∀ a, SR [(1, .pointer (some ⟨W.heap.size, 0, none⟩))] 53 [] (W.alloc (.cells #[(ii X), (ii Y), (ii Z), cv] 24)) a (W.alloc (.cells #[(ii X), (ii Y), (ii Z), cv] 24)) → Q .normal a (W.alloc (.cells #[(ii X), (ii Y), (ii Z), cv] 24))) : (regOf 0 C28).wpIn Fence.wide n Try.prog Q a W := by
  simp only [regOf, C28, Try.f28, Option.getD, Nat.reduceBEq, Bool.false_eq_true, if_true, if_false]
  refine region_sq (fun k_ a w => match k_ with | 0 => SR [(0, .agg #[(ii X), (ii Y), (ii Z), cv])] 53 [] W a w | 1 => SR [(1, .pointer (some ⟨W.heap.size, 0, none⟩))] 53 [] (W.alloc (.cells #[(ii X), (ii Y), (ii Z), cv] 24)) a w | _ => SR [(1, .pointer (some ⟨W.heap.size, 0, none⟩))] 53 [] (W.alloc (.cells #[(ii X), (ii Y), (ii Z), cv] 24)) a w) h0 ⟨?_, ?_, trivial⟩ ?_
  · intro a w (hI : SR _ _ _ _ a w); have e0 := hI.g 0 rfl; obtain rfl := hI.wp; go_simp; exact hI.s 1
  · intro a w (hI : SR _ _ _ _ a w); obtain rfl := hI.wp; go_simp; exact hI.s 2
  · intro a w (hI : SR _ _ _ _ a w); obtain rfl := hI.wp
    exact hQ a hI
theorem sr1 (n : Nat) {G : World → Prop} (B N : Nat) (sp : Option Addr) (cap : Nat) (c3 : CE G B 3 (.slice sp N cap)) (hN2 : N ≤ 262144) (G1 : Nat → World → Prop) (hst : ∀ w, G w → G1 w.heap.size (w.alloc (.cells (madeCells #[(ii 0)] N) 3))) (Q : Po) (a : Act) (w : World) (h0 : SG [(1, pt B 0)] 53 G a w)
    (hQ : ∀ g4 a w, SG [(1, pt B 0), (3, sl g4 N N)] 53 (G1 g4) a w → Q .normal a w) : (regOf 1 C28).wpIn Fence.wide n Try.prog Q a w := by
  obtain ⟨i0, hi, hz0, hz1, hz2⟩ := info_parts info3b
  simp only [regOf, C28, Try.f28, Option.getD, Nat.reduceBEq, Bool.false_eq_true, if_true, if_false]
  refine region_sq (fun k_ a w => match k_ with | 0 => SG [(1, pt B 0)] 53 G a w | 1 => SG [(1, pt B 0), (8, pt B 3)] 53 G a w | 2 => SG [(1, pt B 0), (9, .slice sp N cap)] 53 G a w | 3 => SG [(1, pt B 0), (10, ii N)] 53 G a w | 4 => ∃ g4, SG [(1, pt B 0), (11, sl g4 N N)] 53 (G1 g4) a w | _ => ∃ g4, SG [(1, pt B 0), (3, sl g4 N N)] 53 (G1 g4) a w) h0 ⟨?_, ?_, ?_, ?_, ?_, trivial⟩ ?_
  · intro a w (hI : SG _ _ G a w); have e1 := hI.g 1 rfl; go_simp; exact hI.q 8
  · intro a w (hI : SG _ _ G a w); have e8 := hI.g 8 rfl; have cc0 := c3 w hI.wp; go_simp; exact hI.q 9
  · intro a w (hI : SG _ _ G a w); have e9 := hI.g 9 rfl; go_simp; exact hI.q 10
  · intro a w (hI : SG _ _ G a w); have e10 := hI.g 10 rfl
    have hmk := run_make (P := Try.prog) w 40 3 i0 ((ii 0)) under40b hi hz0 .i64 .i64 N N (by omega) (Int.le_refl _) (by rw [hz2]; omega) (by omega)
    rw [Int.toNat_natCast, hz1, Nat.mul_one] at hmk
    replace hmk : (Instr.makeSlice 40 ((ii N)) ((ii N))).run Try.prog w = .ok (.slice (some ⟨w.heap.size, 0, none⟩) N N) (w.alloc (.cells (madeCells #[(ii 0)] N) 3)) := hmk
    go_simp
    exact ⟨w.heap.size, hI.put (d := 11) (by decide) (by simp) (hst w hI.wp)⟩
  · rintro a w ⟨g4, hI⟩
    have e11 := hI.g 11 rfl; go_simp
    exact ⟨g4, hI.q 3⟩
  · rintro a w ⟨g4, hI⟩
    exact hQ g4 a w hI
abbrev sA (B g4 N : Nat) : List (Nat × Value) := [(1, pt B 0), (3, sl g4 N N)]
theorem sr2 (n : Nat) (W : World) (B g4 N : Nat)  (Q : Po) (a : Act) (h0 : SR (sA B g4 N) 53 [] W a W)
    (hQ : ∀ a, SR (sA B g4 N ++ [(4, ii 0)]) 53 [] W a W → Q .normal a W) : (regOf 2 C28).wpIn Fence.wide n Try.prog Q a W := by
  simp only [regOf, C28, Try.f28, Option.getD, Nat.reduceBEq, Bool.false_eq_true, if_true, if_false]
  refine region_sq (fun k_ a w => match k_ with | 0 => SR (sA B g4 N) 53 [] W a w | _ => SR (sA B g4 N ++ [(4, ii 0)]) 53 [] W a w) h0 ⟨?_, trivial⟩ ?_
  · intro a w (hI : SR _ _ _ _ a w); obtain rfl := hI.wp; go_simp; exact hI.s 4
  · intro a w (hI : SR _ _ _ _ a w); obtain rfl := hI.wp
    exact hQ a hI
abbrev sB (B g4 N z : Nat) : List (Nat × Value) := [(1, pt B 0), (3, sl g4 N N), (4, ii z)]
theorem sr3 (n : Nat) (W : World) (B g4 N : Nat) (z : Nat) (Z : Nat) (c2_ : W.cell? ⟨B, 2, none⟩ = some (ii Z)) (Q : Po) (a : Act) (h0 : SR (sB B g4 N z) 53 [] W a W)
    (hQ : ∀ a, SR (sB B g4 N z ++ [(15, .bool (decide (z < Z)))]) 53 [] W a W → Q .normal a W) : (regOf 3 C28).wpIn Fence.wide n Try.prog Q a W := by
  simp only [regOf, C28, Try.f28, Option.getD, Nat.reduceBEq, Bool.false_eq_true, if_true, if_false]
  refine region_sq (fun k_ a w => match k_ with | 0 => SR (sB B g4 N z) 53 [] W a w | 1 => SR (sB B g4 N z ++ [(12, ii z)]) 53 [] W a w | 2 => SR (sB B g4 N z ++ [(12, ii z), (13, pt B 2)]) 53 [] W a w | 3 => SR (sB B g4 N z ++ [(12, ii z), (14, ii Z)]) 53 [] W a w | _ => SR (sB B g4 N z ++ [(15, .bool (decide (z < Z)))]) 53 [] W a w) h0 ⟨?_, ?_, ?_, ?_, trivial⟩ ?_
  · intro a w (hI : SR _ _ _ _ a w); have e4 := hI.g 4 rfl; obtain rfl := hI.wp; go_simp; exact hI.s 12
  · intro a w (hI : SR _ _ _ _ a w); have e1 := hI.g 1 rfl; obtain rfl := hI.wp; go_simp; exact hI.s 13
  · intro a w (hI : SR _ _ _ _ a w); have e13 := hI.g 13 rfl; obtain rfl := hI.wp; go_simp; exact hI.s 14
  · intro a w (hI : SR _ _ _ _ a w); have e12 := hI.g 12 rfl; have e14 := hI.g 14 rfl; obtain rfl := hI.wp; go_simp; exact hI.s 15
  · intro a w (hI : SR _ _ _ _ a w); obtain rfl := hI.wp
    exact hQ a hI
theorem sr4 (n : Nat) (W : World) (B g4 N : Nat) (z : Nat) (hz : z < 9000000000) (Q : Po) (a : Act) (h0 : SR (sB B g4 N z) 53 [] W a W)
    (hQ : ∀ a, SR (sA B g4 N ++ [(4, (ii ((z : Int) + 1)))]) 53 [] W a W → Q .normal a W) : (regOf 4 C28).wpIn Fence.wide n Try.prog Q a W := by
  simp only [regOf, C28, Try.f28, Option.getD, Nat.reduceBEq, Bool.false_eq_true, if_true, if_false]
  refine region_sq (fun k_ a w => match k_ with | 0 => SR (sB B g4 N z) 53 [] W a w | 1 => SR (sA B g4 N ++ [(16, ii z)]) 53 [] W a w | 2 => SR (sA B g4 N ++ [(17, (ii ((z : Int) + 1)))]) 53 [] W a w | _ => SR (sA B g4 N ++ [(4, (ii ((z : Int) + 1)))]) 53 [] W a w) h0 ⟨?_, ?_, ?_, trivial⟩ ?_
  · intro a w (hI : SR _ _ _ _ a w); have e4 := hI.g 4 rfl; obtain rfl := hI.wp; go_simp; exact hI.s 16
  · intro a w (hI : SR _ _ _ _ a w); have e16 := hI.g 16 rfl; obtain rfl := hI.wp
    have hw1 : IntKind.i64.wrap ((z : Int) + 1) = (z : Int) + 1 := IntWalk.i64_in _ (by omega)
    go_simp; exact hI.s 17
  · intro a w (hI : SR _ _ _ _ a w); have e17 := hI.g 17 rfl; obtain rfl := hI.wp; go_simp; exact hI.s 4
  · intro a w (hI : SR _ _ _ _ a w); obtain rfl := hI.wp
    exact hQ a hI
theorem sr5 (n : Nat) (W : World) (B g4 N : Nat) (z : Nat)  (Q : Po) (a : Act) (h0 : SR (sB B g4 N z) 53 [] W a W)
    (hQ : ∀ a, SR (sB B g4 N z ++ [(5, ii 0)]) 53 [] W a W → Q .normal a W) : (regOf 5 C28).wpIn Fence.wide n Try.prog Q a W := by
  simp only [regOf, C28, Try.f28, Option.getD, Nat.reduceBEq, Bool.false_eq_true, if_true, if_false]
  refine region_sq (fun k_ a w => match k_ with | 0 => SR (sB B g4 N z) 53 [] W a w | _ => SR (sB B g4 N z ++ [(5, ii 0)]) 53 [] W a w) h0 ⟨?_, trivial⟩ ?_
  · intro a w (hI : SR _ _ _ _ a w); obtain rfl := hI.wp; go_simp; exact hI.s 5
  · intro a w (hI : SR _ _ _ _ a w); obtain rfl := hI.wp
    exact hQ a hI
abbrev sC (B g4 N z x : Nat) : List (Nat × Value) := [(1, pt B 0), (3, sl g4 N N), (4, ii z), (5, ii x)]
theorem sr6 (n : Nat) (W : World) (B g4 N : Nat) (z : Nat) (x : Nat) (X : Nat) (c0 : W.cell? ⟨B, 0, none⟩ = some (ii X)) (Q : Po) (a : Act) (h0 : SR (sC B g4 N z x) 53 [] W a W)
    (hQ : ∀ a, SR (sC B g4 N z x ++ [(21, .bool (decide (x < X)))]) 53 [] W a W → Q .normal a W) : (regOf 6 C28).wpIn Fence.wide n Try.prog Q a W := by
  simp only [regOf, C28, Try.f28, Option.getD, Nat.reduceBEq, Bool.false_eq_true, if_true, if_false]
  refine region_sq (fun k_ a w => match k_ with | 0 => SR (sC B g4 N z x) 53 [] W a w | 1 => SR (sC B g4 N z x ++ [(18, ii x)]) 53 [] W a w | 2 => SR (sC B g4 N z x ++ [(18, ii x), (19, pt B 0)]) 53 [] W a w | 3 => SR (sC B g4 N z x ++ [(18, ii x), (20, ii X)]) 53 [] W a w | _ => SR (sC B g4 N z x ++ [(21, .bool (decide (x < X)))]) 53 [] W a w) h0 ⟨?_, ?_, ?_, ?_, trivial⟩ ?_
  · intro a w (hI : SR _ _ _ _ a w); have e5 := hI.g 5 rfl; obtain rfl := hI.wp; go_simp; exact hI.s 18
  · intro a w (hI : SR _ _ _ _ a w); have e1 := hI.g 1 rfl; obtain rfl := hI.wp; go_simp; exact hI.s 19
  · intro a w (hI : SR _ _ _ _ a w); have e19 := hI.g 19 rfl; obtain rfl := hI.wp; go_simp; exact hI.s 20
  · intro a w (hI : SR _ _ _ _ a w); have e18 := hI.g 18 rfl; have e20 := hI.g 20 rfl; obtain rfl := hI.wp; go_simp; exact hI.s 21
  · intro a w (hI : SR _ _ _ _ a w); obtain rfl := hI.wp
    exact hQ a hI
theorem sr7 (n : Nat) (W : World) (B g4 N : Nat) (z : Nat) (x : Nat) (hx : x < 9000000000) (Q : Po) (a : Act) (h0 : SR (sC B g4 N z x) 53 [] W a W)
    (hQ : ∀ a, SR (sB B g4 N z ++ [(5, (ii ((x : Int) + 1)))]) 53 [] W a W → Q .normal a W) : (regOf 7 C28).wpIn Fence.wide n Try.prog Q a W := by
  simp only [regOf, C28, Try.f28, Option.getD, Nat.reduceBEq, Bool.false_eq_true, if_true, if_false]
  refine region_sq (fun k_ a w => match k_ with | 0 => SR (sC B g4 N z x) 53 [] W a w | 1 => SR (sB B g4 N z ++ [(22, ii x)]) 53 [] W a w | 2 => SR (sB B g4 N z ++ [(23, (ii ((x : Int) + 1)))]) 53 [] W a w | _ => SR (sB B g4 N z ++ [(5, (ii ((x : Int) + 1)))]) 53 [] W a w) h0 ⟨?_, ?_, ?_, trivial⟩ ?_
  · intro a w (hI : SR _ _ _ _ a w); have e5 := hI.g 5 rfl; obtain rfl := hI.wp; go_simp; exact hI.s 22
  · intro a w (hI : SR _ _ _ _ a w); have e22 := hI.g 22 rfl; obtain rfl := hI.wp
    have hw1 : IntKind.i64.wrap ((x : Int) + 1) = (x : Int) + 1 := IntWalk.i64_in _ (by omega)
    go_simp; exact hI.s 23
  · intro a w (hI : SR _ _ _ _ a w); have e23 := hI.g 23 rfl; obtain rfl := hI.wp; go_simp; exact hI.s 5
  · intro a w (hI : SR _ _ _ _ a w); obtain rfl := hI.wp
    exact hQ a hI
theorem sr8 (n : Nat) (W : World) (B g4 N : Nat) (z : Nat) (x : Nat) (Y : Nat) (hY : Y < 9000000000) (c1 : W.cell? ⟨B, 1, none⟩ = some (ii Y)) (Q : Po) (a : Act) (h0 : SR (sC B g4 N z x) 53 [] W a W)
    (hQ : ∀ a, SR (sC B g4 N z x ++ [(6, (ii ((Y : Int) - 1)))]) 53 [] W a W → Q .normal a W) : (regOf 8 C28).wpIn Fence.wide n Try.prog Q a W := by
  simp only [regOf, C28, Try.f28, Option.getD, Nat.reduceBEq, Bool.false_eq_true, if_true, if_false]
  refine region_sq (fun k_ a w => match k_ with | 0 => SR (sC B g4 N z x) 53 [] W a w | 1 => SR (sC B g4 N z x ++ [(24, pt B 1)]) 53 [] W a w | 2 => SR (sC B g4 N z x ++ [(25, ii Y)]) 53 [] W a w | 3 => SR (sC B g4 N z x ++ [(26, (ii ((Y : Int) - 1)))]) 53 [] W a w | _ => SR (sC B g4 N z x ++ [(6, (ii ((Y : Int) - 1)))]) 53 [] W a w) h0 ⟨?_, ?_, ?_, ?_, trivial⟩ ?_
  · intro a w (hI : SR _ _ _ _ a w); have e1 := hI.g 1 rfl; obtain rfl := hI.wp; go_simp; exact hI.s 24
  · intro a w (hI : SR _ _ _ _ a w); have e24 := hI.g 24 rfl; obtain rfl := hI.wp; go_simp; exact hI.s 25
  · intro a w (hI : SR _ _ _ _ a w); have e25 := hI.g 25 rfl; obtain rfl := hI.wp
    have hw2 : IntKind.i64.wrap ((Y : Int) - 1) = (Y : Int) - 1 := IntWalk.i64_in _ (by omega)
    go_simp; exact hI.s 26
  · intro a w (hI : SR _ _ _ _ a w); have e26 := hI.g 26 rfl; obtain rfl := hI.wp; go_simp; exact hI.s 6
  · intro a w (hI : SR _ _ _ _ a w); obtain rfl := hI.wp
    exact hQ a hI
abbrev sD (B g4 N z x : Nat) (y : Int) : List (Nat × Value) := [(1, pt B 0), (3, sl g4 N N), (4, ii z), (5, ii x), (6, ii y)]
theorem sr9 (n : Nat) (W : World) (B g4 N : Nat) (z : Nat) (x : Nat) (y : Int) (Q : Po) (a : Act) (h0 : SR (sD B g4 N z x y) 53 [] W a W)
    (hQ : ∀ a, SR (sD B g4 N z x y ++ [(28, .bool (decide (0 ≤ y)))]) 53 [] W a W → Q .normal a W) : (regOf 9 C28).wpIn Fence.wide n Try.prog Q a W := by
  simp only [regOf, C28, Try.f28, Option.getD, Nat.reduceBEq, Bool.false_eq_true, if_true, if_false]
  refine region_sq (fun k_ a w => match k_ with | 0 => SR (sD B g4 N z x y) 53 [] W a w | 1 => SR (sD B g4 N z x y ++ [(27, ii y)]) 53 [] W a w | _ => SR (sD B g4 N z x y ++ [(28, .bool (decide (0 ≤ y)))]) 53 [] W a w) h0 ⟨?_, ?_, trivial⟩ ?_
  · intro a w (hI : SR _ _ _ _ a w); have e6 := hI.g 6 rfl; obtain rfl := hI.wp; go_simp; exact hI.s 27
  · intro a w (hI : SR _ _ _ _ a w); have e27 := hI.g 27 rfl; obtain rfl := hI.wp; go_simp; exact hI.s 28
  · intro a w (hI : SR _ _ _ _ a w); obtain rfl := hI.wp
    exact hQ a hI
theorem sr10 (n : Nat) (W : World) (B g4 N : Nat) (z : Nat) (x : Nat) (y : Nat) (hy : y < 9000000000) (Q : Po) (a : Act) (h0 : SR (sD B g4 N z x y) 53 [] W a W)
    (hQ : ∀ a, SR (sC B g4 N z x ++ [(6, (ii ((y : Int) - 1)))]) 53 [] W a W → Q .normal a W) : (regOf 10 C28).wpIn Fence.wide n Try.prog Q a W := by
  simp only [regOf, C28, Try.f28, Option.getD, Nat.reduceBEq, Bool.false_eq_true, if_true, if_false]
  refine region_sq (fun k_ a w => match k_ with | 0 => SR (sD B g4 N z x y) 53 [] W a w | 1 => SR (sC B g4 N z x ++ [(29, ii y)]) 53 [] W a w | 2 => SR (sC B g4 N z x ++ [(30, (ii ((y : Int) - 1)))]) 53 [] W a w | _ => SR (sC B g4 N z x ++ [(6, (ii ((y : Int) - 1)))]) 53 [] W a w) h0 ⟨?_, ?_, ?_, trivial⟩ ?_
  · intro a w (hI : SR _ _ _ _ a w); have e6 := hI.g 6 rfl; obtain rfl := hI.wp; go_simp; exact hI.s 29
  · intro a w (hI : SR _ _ _ _ a w); have e29 := hI.g 29 rfl; obtain rfl := hI.wp
    have hw1 : IntKind.i64.wrap ((y : Int) - 1) = (y : Int) - 1 := IntWalk.i64_in _ (by omega)
    go_simp; exact hI.s 30
  · intro a w (hI : SR _ _ _ _ a w); have e30 := hI.g 30 rfl; obtain rfl := hI.wp; go_simp; exact hI.s 6
  · intro a w (hI : SR _ _ _ _ a w); obtain rfl := hI.wp
    exact hQ a hI
theorem sr11 (n : Nat) (W : World) (B g4 N : Nat) (z : Nat) (x : Nat) (y : Nat) (X Z p1 p2 p3 i : Nat) (h1 : IntKind.i64.wrap ((y : Int) * Z) = (p1 : Int)) (h2 : IntKind.i64.wrap ((p1 : Int) + z) = (p2 : Int)) (h3 : IntKind.i64.wrap ((p2 : Int) * X) = (p3 : Int)) (h4 : IntKind.i64.wrap ((p3 : Int) + x) = (i : Int)) (c2_ : W.cell? ⟨B, 2, none⟩ = some (ii Z)) (c0 : W.cell? ⟨B, 0, none⟩ = some (ii X)) (Q : Po) (a : Act) (h0 : SR (sD B g4 N z x y) 53 [] W a W)
    (hQ : ∀ a, SR (sD B g4 N z x y ++ [(7, ii i)]) 53 [] W a W → Q .normal a W) : (regOf 11 C28).wpIn Fence.wide n Try.prog Q a W := by
  simp only [regOf, C28, Try.f28, Option.getD, Nat.reduceBEq, Bool.false_eq_true, if_true, if_false]
  refine region_sq (fun k_ a w => match k_ with | 0 => SR (sD B g4 N z x y) 53 [] W a w | 1 => SR (sD B g4 N z x y ++ [(31, ii y)]) 53 [] W a w | 2 => SR (sD B g4 N z x y ++ [(31, ii y), (32, pt B 2)]) 53 [] W a w | 3 => SR (sD B g4 N z x y ++ [(31, ii y), (33, ii Z)]) 53 [] W a w | 4 => SR (sD B g4 N z x y ++ [(34, ii p1)]) 53 [] W a w | 5 => SR (sD B g4 N z x y ++ [(34, ii p1), (35, ii z)]) 53 [] W a w | 6 => SR (sD B g4 N z x y ++ [(36, ii p2)]) 53 [] W a w | 7 => SR (sD B g4 N z x y ++ [(36, ii p2), (37, pt B 0)]) 53 [] W a w | 8 => SR (sD B g4 N z x y ++ [(36, ii p2), (38, ii X)]) 53 [] W a w | 9 => SR (sD B g4 N z x y ++ [(39, ii p3)]) 53 [] W a w | 10 => SR (sD B g4 N z x y ++ [(39, ii p3), (40, ii x)]) 53 [] W a w | 11 => SR (sD B g4 N z x y ++ [(41, ii i)]) 53 [] W a w | _ => SR (sD B g4 N z x y ++ [(7, ii i)]) 53 [] W a w) h0 ⟨?_, ?_, ?_, ?_, ?_, ?_, ?_, ?_, ?_, ?_, ?_, ?_, trivial⟩ ?_
  · intro a w (hI : SR _ _ _ _ a w); have e6 := hI.g 6 rfl; obtain rfl := hI.wp; go_simp; exact hI.s 31
  · intro a w (hI : SR _ _ _ _ a w); have e1 := hI.g 1 rfl; obtain rfl := hI.wp; go_simp; exact hI.s 32
  · intro a w (hI : SR _ _ _ _ a w); have e32 := hI.g 32 rfl; obtain rfl := hI.wp; go_simp; exact hI.s 33
  · intro a w (hI : SR _ _ _ _ a w); have e31 := hI.g 31 rfl; have e33 := hI.g 33 rfl; obtain rfl := hI.wp; go_simp; exact hI.s 34
  · intro a w (hI : SR _ _ _ _ a w); have e4 := hI.g 4 rfl; obtain rfl := hI.wp; go_simp; exact hI.s 35
  · intro a w (hI : SR _ _ _ _ a w); have e34 := hI.g 34 rfl; have e35 := hI.g 35 rfl; obtain rfl := hI.wp; go_simp; exact hI.s 36
  · intro a w (hI : SR _ _ _ _ a w); have e1 := hI.g 1 rfl; obtain rfl := hI.wp; go_simp; exact hI.s 37
  · intro a w (hI : SR _ _ _ _ a w); have e37 := hI.g 37 rfl; obtain rfl := hI.wp; go_simp; exact hI.s 38
  · intro a w (hI : SR _ _ _ _ a w); have e36 := hI.g 36 rfl; have e38 := hI.g 38 rfl; obtain rfl := hI.wp; go_simp; exact hI.s 39
  · intro a w (hI : SR _ _ _ _ a w); have e5 := hI.g 5 rfl; obtain rfl := hI.wp; go_simp; exact hI.s 40
  · intro a w (hI : SR _ _ _ _ a w); have e39 := hI.g 39 rfl; have e40 := hI.g 40 rfl; obtain rfl := hI.wp; go_simp; exact hI.s 41
  · intro a w (hI : SR _ _ _ _ a w); have e41 := hI.g 41 rfl; obtain rfl := hI.wp; go_simp; exact hI.s 7
  · intro a w (hI : SR _ _ _ _ a w); obtain rfl := hI.wp
    exact hQ a hI
theorem sr12t (n : Nat) {G : World → Prop} (hS : Stable G) (B g4 N : Nat) (z : Nat) (x : Nat) (y : Nat) (i g off cap k v : Nat) (hi : i < N) (c3 : CE G B 3 (.slice (some ⟨g, off, none⟩) N cap)) (ca0 : CE G g (off + i * 2) (.int .u8 k)) (ca1 : CE G g (off + i * 2 + 1) (.int .u8 v)) (hc : CR G 37 #[.agg #[.int .u8 k, .int .u8 v]] (.bool true)) (Q : Po) (a : Act) (w : World) (h0 : SG (sD B g4 N z x y ++ [(7, ii i)]) 53 G a w)
    (hQ : ∀ a w, SG (sD B g4 N z x y ++ [(7, ii i), (48, .bool false)]) 53 G a w → Q .normal a w) : (regOf 12 C28).wpIn Fence.wide n Try.prog Q a w := by
  simp only [regOf, C28, Try.f28, Option.getD, Nat.reduceBEq, Bool.false_eq_true, if_true, if_false]
  refine region_sq (fun k_ a w => match k_ with | 0 => SG (sD B g4 N z x y ++ [(7, ii i)]) 53 G a w | 1 => SG (sD B g4 N z x y ++ [(7, ii i), (42, pt B 3)]) 53 G a w | 2 => SG (sD B g4 N z x y ++ [(7, ii i), (43, .slice (some ⟨g, off, none⟩) N cap)]) 53 G a w | 3 => SG (sD B g4 N z x y ++ [(7, ii i), (43, .slice (some ⟨g, off, none⟩) N cap), (44, ii i)]) 53 G a w | 4 => SG (sD B g4 N z x y ++ [(7, ii i), (45, pt g (off + i * 2))]) 53 G a w | 5 => SG (sD B g4 N z x y ++ [(7, ii i), (46, .agg #[.int .u8 k, .int .u8 v])]) 53 G a w | 6 => SG (sD B g4 N z x y ++ [(7, ii i), (47, .bool true)]) 53 G a w | _ => SG (sD B g4 N z x y ++ [(7, ii i), (48, .bool false)]) 53 G a w) h0 ⟨?_, ?_, ?_, ?_, ?_, ?_, ?_, trivial⟩ ?_
  · intro a w (hI : SG _ _ G a w); have e1 := hI.g 1 rfl; go_simp; exact hI.q 42
  · intro a w (hI : SG _ _ G a w); have e42 := hI.g 42 rfl; have cc0 := c3 w hI.wp; go_simp; exact hI.q 43
  · intro a w (hI : SG _ _ G a w); have e7 := hI.g 7 rfl; go_simp; exact hI.q 44
  · intro a w (hI : SG _ _ G a w); have e43 := hI.g 43 rfl; have e44 := hI.g 44 rfl
    have q1_3 : (0 : Int) ≤ i := by omega
    have q2_3 : (i : Int) < N := by omega
    go_simp; exact hI.q 45
  · intro a w (hI : SG _ _ G a w); have e45 := hI.g 45 rfl; have cc0 := ca0 w hI.wp; have cc1 := ca1 w hI.wp; go_simp; exact hI.q 46
  · intro a w (hI : SG _ _ G a w); have e46 := hI.g 46 rfl; go_simp
    refine ⟨trivial, fun h => (by cases h), (hc (n - 1) w hI.wp).mono ?_⟩
    rintro e w' ⟨rfl, hb2⟩
    exact hI.put (d := 47) (by decide) (by simp) (hS _ _ hI.wp hb2)
  · intro a w (hI : SG _ _ G a w); have e47 := hI.g 47 rfl; go_simp; exact hI.q 48
  · intro a w (hI : SG _ _ G a w)
    exact hQ a w hI
theorem sr12f (n : Nat) {G : World → Prop} (hS : Stable G) (B g4 N : Nat) (z : Nat) (x : Nat) (y : Nat) (i g off cap k v : Nat) (hi : i < N) (c3 : CE G B 3 (.slice (some ⟨g, off, none⟩) N cap)) (ca0 : CE G g (off + i * 2) (.int .u8 k)) (ca1 : CE G g (off + i * 2 + 1) (.int .u8 v)) (hc : CR G 37 #[.agg #[.int .u8 k, .int .u8 v]] (.bool false)) (Q : Po) (a : Act) (w : World) (h0 : SG (sD B g4 N z x y ++ [(7, ii i)]) 53 G a w)
    (hQ : ∀ a w, SG (sD B g4 N z x y ++ [(7, ii i), (48, .bool true)]) 53 G a w → Q .normal a w) : (regOf 12 C28).wpIn Fence.wide n Try.prog Q a w := by
  simp only [regOf, C28, Try.f28, Option.getD, Nat.reduceBEq, Bool.false_eq_true, if_true, if_false]
  refine region_sq (fun k_ a w => match k_ with | 0 => SG (sD B g4 N z x y ++ [(7, ii i)]) 53 G a w | 1 => SG (sD B g4 N z x y ++ [(7, ii i), (42, pt B 3)]) 53 G a w | 2 => SG (sD B g4 N z x y ++ [(7, ii i), (43, .slice (some ⟨g, off, none⟩) N cap)]) 53 G a w | 3 => SG (sD B g4 N z x y ++ [(7, ii i), (43, .slice (some ⟨g, off, none⟩) N cap), (44, ii i)]) 53 G a w | 4 => SG (sD B g4 N z x y ++ [(7, ii i), (45, pt g (off + i * 2))]) 53 G a w | 5 => SG (sD B g4 N z x y ++ [(7, ii i), (46, .agg #[.int .u8 k, .int .u8 v])]) 53 G a w | 6 => SG (sD B g4 N z x y ++ [(7, ii i), (47, .bool false)]) 53 G a w | _ => SG (sD B g4 N z x y ++ [(7, ii i), (48, .bool true)]) 53 G a w) h0 ⟨?_, ?_, ?_, ?_, ?_, ?_, ?_, trivial⟩ ?_
  · intro a w (hI : SG _ _ G a w); have e1 := hI.g 1 rfl; go_simp; exact hI.q 42
  · intro a w (hI : SG _ _ G a w); have e42 := hI.g 42 rfl; have cc0 := c3 w hI.wp; go_simp; exact hI.q 43
  · intro a w (hI : SG _ _ G a w); have e7 := hI.g 7 rfl; go_simp; exact hI.q 44
  · intro a w (hI : SG _ _ G a w); have e43 := hI.g 43 rfl; have e44 := hI.g 44 rfl
    have q1_3 : (0 : Int) ≤ i := by omega
    have q2_3 : (i : Int) < N := by omega
    go_simp; exact hI.q 45
  · intro a w (hI : SG _ _ G a w); have e45 := hI.g 45 rfl; have cc0 := ca0 w hI.wp; have cc1 := ca1 w hI.wp; go_simp; exact hI.q 46
  · intro a w (hI : SG _ _ G a w); have e46 := hI.g 46 rfl; go_simp
    refine ⟨trivial, fun h => (by cases h), (hc (n - 1) w hI.wp).mono ?_⟩
    rintro e w' ⟨rfl, hb2⟩
    exact hI.put (d := 47) (by decide) (by simp) (hS _ _ hI.wp hb2)
  · intro a w (hI : SG _ _ G a w); have e47 := hI.g 47 rfl; go_simp; exact hI.q 48
  · intro a w (hI : SG _ _ G a w)
    exact hQ a w hI
theorem sr13 (n : Nat) {G G1 : World → Prop} (hS : Stable G) (B g4 N : Nat) (z : Nat) (x : Nat) (y i : Nat) (hi : i < N) (cw : ∀ w, G w → ∃ v, w.cell? ⟨g4, i, none⟩ = some v) (fw : ∀ w, G w → w.frozen? ⟨g4, i, none⟩ = false) (hst : ∀ w, G w → G1 (w.setCell ⟨g4, i, none⟩ ((ii 15)))) (Q : Po) (a : Act) (w : World) (h0 : SG (sD B g4 N z x y ++ [(7, ii i)]) 53 G a w)
    (hQ : ∀ a w, SG (sD B g4 N z x y) 53 G1 a w → Q .normal a w) : (regOf 13 C28).wpIn Fence.wide n Try.prog Q a w := by
  simp only [regOf, C28, Try.f28, Option.getD, Nat.reduceBEq, Bool.false_eq_true, if_true, if_false]
  refine region_sq (fun k_ a w => match k_ with | 0 => SG (sD B g4 N z x y ++ [(7, ii i)]) 53 G a w | 1 => SG (sD B g4 N z x y ++ [(7, ii i), (49, sl g4 N N)]) 53 G a w | 2 => SG (sD B g4 N z x y ++ [(49, sl g4 N N), (50, ii i)]) 53 G a w | 3 => SG (sD B g4 N z x y ++ [(51, pt g4 i)]) 53 G a w | _ => SG (sD B g4 N z x y) 53 G1 a w) h0 ⟨?_, ?_, ?_, ?_, trivial⟩ ?_
  · intro a w (hI : SG _ _ G a w); have e3 := hI.g 3 rfl; go_simp; exact hI.q 49
  · intro a w (hI : SG _ _ G a w); have e7 := hI.g 7 rfl; go_simp; exact hI.q 50
  · intro a w (hI : SG _ _ G a w); have e49 := hI.g 49 rfl; have e50 := hI.g 50 rfl
    have q1_2 : (0 : Int) ≤ i := by omega
    have q2_2 : (i : Int) < N := by omega
    go_simp; exact hI.q 51
  · intro a w (hI : SG _ _ G a w); have e51 := hI.g 51 rfl
    obtain ⟨v0, cw0⟩ := cw w hI.wp
    have fw0 := fw w hI.wp
    go_simp
    exact (hI.none (hst w hI.wp)).sub (by intro p hp; simp only [List.mem_append, List.mem_cons, List.not_mem_nil, or_false] at hp ⊢; rcases hp with hp | hp <;> simp [hp])
  · intro a w (hI : SG _ _ G1 a w)
    exact hQ a w hI
theorem sr14 (n : Nat) (W : World) (B g4 N : Nat) (Q : Po) (a : Act) (h0 : SR (sA B g4 N) 53 [] W a W)
    (hQ : ∀ a, SR [(2, sl g4 N N)] 53 [] W a W → Q .normal a W) : (regOf 14 C28).wpIn Fence.wide n Try.prog Q a W := by
  simp only [regOf, C28, Try.f28, Option.getD, Nat.reduceBEq, Bool.false_eq_true, if_true, if_false]
  refine region_sq (fun k_ a w => match k_ with | 0 => SR [(3, sl g4 N N)] 53 [] W a w | 1 => SR [(52, sl g4 N N)] 53 [] W a w | _ => SR [(2, sl g4 N N)] 53 [] W a w) (h0.sub (by intro p hp; simp only [List.mem_cons, List.not_mem_nil, or_false] at hp ⊢; simp [hp])) ⟨?_, ?_, trivial⟩ ?_
  · intro a w (hI : SR _ _ _ _ a w); have e3 := hI.g 3 rfl; obtain rfl := hI.wp; go_simp; exact hI.s 52
  · intro a w (hI : SR _ _ _ _ a w); have e52 := hI.g 52 rfl; obtain rfl := hI.wp; go_simp; exact hI.s 2
  · intro a w (hI : SR _ _ _ _ a w); obtain rfl := hI.wp
    exact hQ a hI
noncomputable def C29 : Code := Try.f29.body.getD .skip
theorem ro0 (n : Nat) (W : World) (X Y Z : Int) (cv : Value) (o N : Nat) (Q : Po) (a : Act) (h0 : SR [(0, .agg #[(ii X), (ii Y), (ii Z), cv]), (1, sl o N N)] 73 [] W a W)
    (hQ : ∀ a, SR [(1, sl o N N), (2, .pointer (some ⟨W.heap.size, 0, none⟩))] 73 [] (W.alloc (.cells #[(ii X), (ii Y), (ii Z), cv] 24)) a (W.alloc (.cells #[(ii X), (ii Y), (ii Z), cv] 24)) → Q .normal a (W.alloc (.cells #[(ii X), (ii Y), (ii Z), cv] 24))) : (regOf 0 C29).wpIn Fence.wide n Try.prog Q a W := by
  simp only [regOf, C29, Try.f29, Option.getD, Nat.reduceBEq, Bool.false_eq_true, if_true, if_false]
  refine region_sq (fun k_ a w => match k_ with | 0 => SR [(0, .agg #[(ii X), (ii Y), (ii Z), cv]), (1, sl o N N)] 73 [] W a w | 1 => SR [(1, sl o N N), (2, .pointer (some ⟨W.heap.size, 0, none⟩))] 73 [] (W.alloc (.cells #[(ii X), (ii Y), (ii Z), cv] 24)) a w | _ => SR [(1, sl o N N), (2, .pointer (some ⟨W.heap.size, 0, none⟩))] 73 [] (W.alloc (.cells #[(ii X), (ii Y), (ii Z), cv] 24)) a w) h0 ⟨?_, ?_, trivial⟩ ?_
  · intro a w (hI : SR _ _ _ _ a w); have e0 := hI.g 0 rfl; obtain rfl := hI.wp; go_simp; exact hI.s 2
  · intro a w (hI : SR _ _ _ _ a w); obtain rfl := hI.wp; go_simp; exact hI.s 4
  · intro a w (hI : SR _ _ _ _ a w); obtain rfl := hI.wp
    exact hQ a hI
theorem ro1 (n : Nat) (W : World) (o N B : Nat) (Q : Po) (a : Act) (h0 : SR [(1, sl o N N), (2, pt B 0)] 73 [] W a W)
    (hQ : ∀ a, SR [(1, sl o N N), (2, pt B 0), (5, sl o N N)] 73 [] W a W → Q .normal a W) : (regOf 1 C29).wpIn Fence.wide n Try.prog Q a W := by
  simp only [regOf, C29, Try.f29, Option.getD, Nat.reduceBEq, Bool.false_eq_true, if_true, if_false]
  refine region_sq (fun k_ a w => match k_ with | 0 => SR [(1, sl o N N), (2, pt B 0)] 73 [] W a w | 1 => SR [(1, sl o N N), (2, pt B 0), (13, sl o N N)] 73 [] W a w | _ => SR [(1, sl o N N), (2, pt B 0), (5, sl o N N)] 73 [] W a w) h0 ⟨?_, ?_, trivial⟩ ?_
  · intro a w (hI : SR _ _ _ _ a w); have e1 := hI.g 1 rfl; obtain rfl := hI.wp; go_simp; exact hI.s 13
  · intro a w (hI : SR _ _ _ _ a w); have e13 := hI.g 13 rfl; obtain rfl := hI.wp; go_simp; exact hI.s 5
  · intro a w (hI : SR _ _ _ _ a w); obtain rfl := hI.wp
    exact hQ a hI
theorem ro2 (n : Nat) (W : World) (o N B lk : Nat) (Q : Po) (a : Act) (h0 : SR [(1, sl o N N), (2, pt B 0), (5, sl lk N N)] 73 [] W a W)
    (hQ : ∀ a, SR [(1, sl o N N), (2, pt B 0), (5, sl lk N N), (6, ii 0)] 73 [] W a W → Q .normal a W) : (regOf 2 C29).wpIn Fence.wide n Try.prog Q a W := by
  simp only [regOf, C29, Try.f29, Option.getD, Nat.reduceBEq, Bool.false_eq_true, if_true, if_false]
  refine region_sq (fun k_ a w => match k_ with | 0 => SR [(1, sl o N N), (2, pt B 0), (5, sl lk N N)] 73 [] W a w | _ => SR [(1, sl o N N), (2, pt B 0), (5, sl lk N N), (6, ii 0)] 73 [] W a w) h0 ⟨?_, trivial⟩ ?_
  · intro a w (hI : SR _ _ _ _ a w); obtain rfl := hI.wp; go_simp; exact hI.s 6
  · intro a w (hI : SR _ _ _ _ a w); obtain rfl := hI.wp
    exact hQ a hI
abbrev rA (o N B lk k : Nat) : List (Nat × Value) := [(1, sl o N N), (2, pt B 0), (5, sl lk N N), (6, ii k)]
theorem ro3 (n : Nat) (W : World) (o N B lk k : Nat)  (Q : Po) (a : Act) (h0 : SR (rA o N B lk k) 73 [] W a W)
    (hQ : ∀ a, SR (rA o N B lk k ++ [(15, .bool (decide ((k : Int) < 15)))]) 73 [] W a W → Q .normal a W) : (regOf 3 C29).wpIn Fence.wide n Try.prog Q a W := by
  simp only [regOf, C29, Try.f29, Option.getD, Nat.reduceBEq, Bool.false_eq_true, if_true, if_false]
  refine region_sq (fun k_ a w => match k_ with | 0 => SR (rA o N B lk k) 73 [] W a w | 1 => SR (rA o N B lk k ++ [(14, ii k)]) 73 [] W a w | _ => SR (rA o N B lk k ++ [(15, .bool (decide ((k : Int) < 15)))]) 73 [] W a w) h0 ⟨?_, ?_, trivial⟩ ?_
  · intro a w (hI : SR _ _ _ _ a w); have e6 := hI.g 6 rfl; obtain rfl := hI.wp; go_simp; exact hI.s 14
  · intro a w (hI : SR _ _ _ _ a w); have e14 := hI.g 14 rfl; obtain rfl := hI.wp; go_simp; exact hI.s 15
  · intro a w (hI : SR _ _ _ _ a w); obtain rfl := hI.wp
    exact hQ a hI
theorem ro4 (n : Nat) (W : World) (o N B lk k : Nat) (hk : k < 9000000000) (Q : Po) (a : Act) (h0 : SR (rA o N B lk k) 73 [] W a W)
    (hQ : ∀ a, SR [(1, sl o N N), (2, pt B 0), (5, sl lk N N), (6, (ii ((k : Int) + 1)))] 73 [] W a W → Q .normal a W) : (regOf 4 C29).wpIn Fence.wide n Try.prog Q a W := by
  simp only [regOf, C29, Try.f29, Option.getD, Nat.reduceBEq, Bool.false_eq_true, if_true, if_false]
  refine region_sq (fun k_ a w => match k_ with | 0 => SR (rA o N B lk k) 73 [] W a w | 1 => SR [(1, sl o N N), (2, pt B 0), (5, sl lk N N), (16, ii k)] 73 [] W a w | 2 => SR [(1, sl o N N), (2, pt B 0), (5, sl lk N N), (17, (ii ((k : Int) + 1)))] 73 [] W a w | _ => SR [(1, sl o N N), (2, pt B 0), (5, sl lk N N), (6, (ii ((k : Int) + 1)))] 73 [] W a w) h0 ⟨?_, ?_, ?_, trivial⟩ ?_
  · intro a w (hI : SR _ _ _ _ a w); have e6 := hI.g 6 rfl; obtain rfl := hI.wp; go_simp; exact hI.s 16
  · intro a w (hI : SR _ _ _ _ a w); have e16 := hI.g 16 rfl; obtain rfl := hI.wp
    have hw1 : IntKind.i64.wrap ((k : Int) + 1) = (k : Int) + 1 := IntWalk.i64_in _ (by omega)
    go_simp; exact hI.s 17
  · intro a w (hI : SR _ _ _ _ a w); have e17 := hI.g 17 rfl; obtain rfl := hI.wp; go_simp; exact hI.s 6
  · intro a w (hI : SR _ _ _ _ a w); obtain rfl := hI.wp
    exact hQ a hI
theorem ro5 (n : Nat) {G : World → Prop} (o N B lk k : Nat)  (hN2 : N ≤ 262144) (G1 : Nat → World → Prop) (hst : ∀ w, G w → G1 w.heap.size (w.alloc (.cells (madeCells #[(ii 0)] N) 3))) (Q : Po) (a : Act) (w : World) (h0 : SG (rA o N B lk k) 73 G a w)
    (hQ : ∀ nx a w, SG (rA o N B lk k ++ [(7, sl nx N N)]) 73 (G1 nx) a w → Q .normal a w) : (regOf 5 C29).wpIn Fence.wide n Try.prog Q a w := by
  obtain ⟨i0, hi, hz0, hz1, hz2⟩ := info_parts info3b
  simp only [regOf, C29, Try.f29, Option.getD, Nat.reduceBEq, Bool.false_eq_true, if_true, if_false]
  refine region_sq (fun k_ a w => match k_ with | 0 => SG (rA o N B lk k) 73 G a w | 1 => SG (rA o N B lk k ++ [(18, sl lk N N)]) 73 G a w | 2 => SG (rA o N B lk k ++ [(19, ii N)]) 73 G a w | 3 => ∃ nx, SG (rA o N B lk k ++ [(20, sl nx N N)]) 73 (G1 nx) a w | _ => ∃ nx, SG (rA o N B lk k ++ [(7, sl nx N N)]) 73 (G1 nx) a w) h0 ⟨?_, ?_, ?_, ?_, trivial⟩ ?_
  · intro a w (hI : SG _ _ G a w); have e5 := hI.g 5 rfl; go_simp; exact hI.q 18
  · intro a w (hI : SG _ _ G a w); have e18 := hI.g 18 rfl; go_simp; exact hI.q 19
  · intro a w (hI : SG _ _ G a w); have e19 := hI.g 19 rfl
    have hmk := run_make (P := Try.prog) w 40 3 i0 ((ii 0)) under40b hi hz0 .i64 .i64 N N (by omega) (Int.le_refl _) (by rw [hz2]; omega) (by omega)
    rw [Int.toNat_natCast, hz1, Nat.mul_one] at hmk
    replace hmk : (Instr.makeSlice 40 ((ii N)) ((ii N))).run Try.prog w = .ok (.slice (some ⟨w.heap.size, 0, none⟩) N N) (w.alloc (.cells (madeCells #[(ii 0)] N) 3)) := hmk
    go_simp
    exact ⟨w.heap.size, hI.put (d := 20) (by decide) (by simp) (hst w hI.wp)⟩
  · rintro a w ⟨nx, hI⟩
    have e20 := hI.g 20 rfl; go_simp
    exact ⟨nx, hI.q 7⟩
  · rintro a w ⟨nx, hI⟩
    exact hQ nx a w hI
abbrev rB (o N B lk k nx : Nat) : List (Nat × Value) := [(1, sl o N N), (2, pt B 0), (5, sl lk N N), (6, ii k), (7, sl nx N N)]
theorem ro6 (n : Nat) (W : World) (o N B lk k : Nat) (nx : Nat)  (Q : Po) (a : Act) (h0 : SR (rB o N B lk k nx) 73 [] W a W)
    (hQ : ∀ a, SR (rB o N B lk k nx ++ [(8, ii 0)]) 73 [] W a W → Q .normal a W) : (regOf 6 C29).wpIn Fence.wide n Try.prog Q a W := by
  simp only [regOf, C29, Try.f29, Option.getD, Nat.reduceBEq, Bool.false_eq_true, if_true, if_false]
  refine region_sq (fun k_ a w => match k_ with | 0 => SR (rB o N B lk k nx) 73 [] W a w | _ => SR (rB o N B lk k nx ++ [(8, ii 0)]) 73 [] W a w) h0 ⟨?_, trivial⟩ ?_
  · intro a w (hI : SR _ _ _ _ a w); obtain rfl := hI.wp; go_simp; exact hI.s 8
  · intro a w (hI : SR _ _ _ _ a w); obtain rfl := hI.wp
    exact hQ a hI
theorem ro19 (n : Nat) (W : World) (o N B lk k : Nat) (nx : Nat)  (Q : Po) (a : Act) (h0 : SR (rB o N B lk k nx) 73 [] W a W)
    (hQ : ∀ a, SR [(1, sl o N N), (2, pt B 0), (6, ii k), (5, sl nx N N)] 73 [] W a W → Q .normal a W) : (regOf 19 C29).wpIn Fence.wide n Try.prog Q a W := by
  simp only [regOf, C29, Try.f29, Option.getD, Nat.reduceBEq, Bool.false_eq_true, if_true, if_false]
  refine region_sq (fun k_ a w => match k_ with | 0 => SR [(1, sl o N N), (2, pt B 0), (6, ii k), (7, sl nx N N)] 73 [] W a w | 1 => SR [(1, sl o N N), (2, pt B 0), (6, ii k), (71, sl nx N N)] 73 [] W a w | _ => SR [(1, sl o N N), (2, pt B 0), (6, ii k), (5, sl nx N N)] 73 [] W a w) (h0.sub (by intro p hp; simp only [List.mem_cons, List.not_mem_nil, or_false] at hp ⊢; rcases hp with h | h | h | h <;> simp [h])) ⟨?_, ?_, trivial⟩ ?_
  · intro a w (hI : SR _ _ _ _ a w); have e7 := hI.g 7 rfl; obtain rfl := hI.wp; go_simp; exact hI.s 71
  · intro a w (hI : SR _ _ _ _ a w); have e71 := hI.g 71 rfl; obtain rfl := hI.wp; go_simp; exact hI.s 5
  · intro a w (hI : SR _ _ _ _ a w); obtain rfl := hI.wp
    exact hQ a hI
abbrev rC (o N B lk k nx y : Nat) : List (Nat × Value) := [(1, sl o N N), (2, pt B 0), (5, sl lk N N), (6, ii k), (7, sl nx N N), (8, ii y)]
theorem ro7 (n : Nat) (W : World) (o N B lk k : Nat) (nx : Nat) (y : Nat) (Y : Nat) (c1 : W.cell? ⟨B, 1, none⟩ = some (ii Y)) (Q : Po) (a : Act) (h0 : SR (rC o N B lk k nx y) 73 [] W a W)
    (hQ : ∀ a, SR (rC o N B lk k nx y ++ [(24, .bool (decide (y < Y)))]) 73 [] W a W → Q .normal a W) : (regOf 7 C29).wpIn Fence.wide n Try.prog Q a W := by
  simp only [regOf, C29, Try.f29, Option.getD, Nat.reduceBEq, Bool.false_eq_true, if_true, if_false]
  refine region_sq (fun k_ a w => match k_ with | 0 => SR (rC o N B lk k nx y) 73 [] W a w | 1 => SR (rC o N B lk k nx y ++ [(21, ii y)]) 73 [] W a w | 2 => SR (rC o N B lk k nx y ++ [(21, ii y), (22, pt B 1)]) 73 [] W a w | 3 => SR (rC o N B lk k nx y ++ [(21, ii y), (23, ii Y)]) 73 [] W a w | _ => SR (rC o N B lk k nx y ++ [(24, .bool (decide (y < Y)))]) 73 [] W a w) h0 ⟨?_, ?_, ?_, ?_, trivial⟩ ?_
  · intro a w (hI : SR _ _ _ _ a w); have e8 := hI.g 8 rfl; obtain rfl := hI.wp; go_simp; exact hI.s 21
  · intro a w (hI : SR _ _ _ _ a w); have e2 := hI.g 2 rfl; obtain rfl := hI.wp; go_simp; exact hI.s 22
  · intro a w (hI : SR _ _ _ _ a w); have e22 := hI.g 22 rfl; obtain rfl := hI.wp; go_simp; exact hI.s 23
  · intro a w (hI : SR _ _ _ _ a w); have e21 := hI.g 21 rfl; have e23 := hI.g 23 rfl; obtain rfl := hI.wp; go_simp; exact hI.s 24
  · intro a w (hI : SR _ _ _ _ a w); obtain rfl := hI.wp
    exact hQ a hI
theorem ro8 (n : Nat) (W : World) (o N B lk k : Nat) (nx : Nat) (y : Nat) (hy : y < 9000000000) (Q : Po) (a : Act) (h0 : SR (rC o N B lk k nx y) 73 [] W a W)
    (hQ : ∀ a, SR (rB o N B lk k nx ++ [(8, (ii ((y : Int) + 1)))]) 73 [] W a W → Q .normal a W) : (regOf 8 C29).wpIn Fence.wide n Try.prog Q a W := by
  simp only [regOf, C29, Try.f29, Option.getD, Nat.reduceBEq, Bool.false_eq_true, if_true, if_false]
  refine region_sq (fun k_ a w => match k_ with | 0 => SR (rC o N B lk k nx y) 73 [] W a w | 1 => SR (rB o N B lk k nx ++ [(25, ii y)]) 73 [] W a w | 2 => SR (rB o N B lk k nx ++ [(26, (ii ((y : Int) + 1)))]) 73 [] W a w | _ => SR (rB o N B lk k nx ++ [(8, (ii ((y : Int) + 1)))]) 73 [] W a w) h0 ⟨?_, ?_, ?_, trivial⟩ ?_
  · intro a w (hI : SR _ _ _ _ a w); have e8 := hI.g 8 rfl; obtain rfl := hI.wp; go_simp; exact hI.s 25
  · intro a w (hI : SR _ _ _ _ a w); have e25 := hI.g 25 rfl; obtain rfl := hI.wp
    have hw1 : IntKind.i64.wrap ((y : Int) + 1) = (y : Int) + 1 := IntWalk.i64_in _ (by omega)
    go_simp; exact hI.s 26
  · intro a w (hI : SR _ _ _ _ a w); have e26 := hI.g 26 rfl; obtain rfl := hI.wp; go_simp; exact hI.s 8
  · intro a w (hI : SR _ _ _ _ a w); obtain rfl := hI.wp
    exact hQ a hI
theorem ro9 (n : Nat) (W : World) (o N B lk k : Nat) (nx : Nat) (y : Nat)  (Q : Po) (a : Act) (h0 : SR (rC o N B lk k nx y) 73 [] W a W)
    (hQ : ∀ a, SR (rC o N B lk k nx y ++ [(9, ii 0)]) 73 [] W a W → Q .normal a W) : (regOf 9 C29).wpIn Fence.wide n Try.prog Q a W := by
  simp only [regOf, C29, Try.f29, Option.getD, Nat.reduceBEq, Bool.false_eq_true, if_true, if_false]
  refine region_sq (fun k_ a w => match k_ with | 0 => SR (rC o N B lk k nx y) 73 [] W a w | _ => SR (rC o N B lk k nx y ++ [(9, ii 0)]) 73 [] W a w) h0 ⟨?_, trivial⟩ ?_
  · intro a w (hI : SR _ _ _ _ a w); obtain rfl := hI.wp; go_simp; exact hI.s 9
  · intro a w (hI : SR _ _ _ _ a w); obtain rfl := hI.wp
    exact hQ a hI
abbrev rD (o N B lk k nx y z : Nat) : List (Nat × Value) := [(1, sl o N N), (2, pt B 0), (5, sl lk N N), (6, ii k), (7, sl nx N N), (8, ii y), (9, ii z)]
theorem ro10 (n : Nat) (W : World) (o N B lk k : Nat) (nx : Nat) (y : Nat) (z : Nat) (Z : Nat) (c2_ : W.cell? ⟨B, 2, none⟩ = some (ii Z)) (Q : Po) (a : Act) (h0 : SR (rD o N B lk k nx y z) 73 [] W a W)
    (hQ : ∀ a, SR (rD o N B lk k nx y z ++ [(30, .bool (decide (z < Z)))]) 73 [] W a W → Q .normal a W) : (regOf 10 C29).wpIn Fence.wide n Try.prog Q a W := by
  simp only [regOf, C29, Try.f29, Option.getD, Nat.reduceBEq, Bool.false_eq_true, if_true, if_false]
  refine region_sq (fun k_ a w => match k_ with | 0 => SR (rD o N B lk k nx y z) 73 [] W a w | 1 => SR (rD o N B lk k nx y z ++ [(27, ii z)]) 73 [] W a w | 2 => SR (rD o N B lk k nx y z ++ [(27, ii z), (28, pt B 2)]) 73 [] W a w | 3 => SR (rD o N B lk k nx y z ++ [(27, ii z), (29, ii Z)]) 73 [] W a w | _ => SR (rD o N B lk k nx y z ++ [(30, .bool (decide (z < Z)))]) 73 [] W a w) h0 ⟨?_, ?_, ?_, ?_, trivial⟩ ?_
  · intro a w (hI : SR _ _ _ _ a w); have e9 := hI.g 9 rfl; obtain rfl := hI.wp; go_simp; exact hI.s 27
  · intro a w (hI : SR _ _ _ _ a w); have e2 := hI.g 2 rfl; obtain rfl := hI.wp; go_simp; exact hI.s 28
  · intro a w (hI : SR _ _ _ _ a w); have e28 := hI.g 28 rfl; obtain rfl := hI.wp; go_simp; exact hI.s 29
  · intro a w (hI : SR _ _ _ _ a w); have e27 := hI.g 27 rfl; have e29 := hI.g 29 rfl; obtain rfl := hI.wp; go_simp; exact hI.s 30
  · intro a w (hI : SR _ _ _ _ a w); obtain rfl := hI.wp
    exact hQ a hI
theorem ro11 (n : Nat) (W : World) (o N B lk k : Nat) (nx : Nat) (y : Nat) (z : Nat) (hz : z < 9000000000) (Q : Po) (a : Act) (h0 : SR (rD o N B lk k nx y z) 73 [] W a W)
    (hQ : ∀ a, SR (rC o N B lk k nx y ++ [(9, (ii ((z : Int) + 1)))]) 73 [] W a W → Q .normal a W) : (regOf 11 C29).wpIn Fence.wide n Try.prog Q a W := by
  simp only [regOf, C29, Try.f29, Option.getD, Nat.reduceBEq, Bool.false_eq_true, if_true, if_false]
  refine region_sq (fun k_ a w => match k_ with | 0 => SR (rD o N B lk k nx y z) 73 [] W a w | 1 => SR (rC o N B lk k nx y ++ [(31, ii z)]) 73 [] W a w | 2 => SR (rC o N B lk k nx y ++ [(32, (ii ((z : Int) + 1)))]) 73 [] W a w | _ => SR (rC o N B lk k nx y ++ [(9, (ii ((z : Int) + 1)))]) 73 [] W a w) h0 ⟨?_, ?_, ?_, trivial⟩ ?_
  · intro a w (hI : SR _ _ _ _ a w); have e9 := hI.g 9 rfl; obtain rfl := hI.wp; go_simp; exact hI.s 31
  · intro a w (hI : SR _ _ _ _ a w); have e31 := hI.g 31 rfl; obtain rfl := hI.wp
    have hw1 : IntKind.i64.wrap ((z : Int) + 1) = (z : Int) + 1 := IntWalk.i64_in _ (by omega)
    go_simp; exact hI.s 32
  · intro a w (hI : SR _ _ _ _ a w); have e32 := hI.g 32 rfl; obtain rfl := hI.wp; go_simp; exact hI.s 9
  · intro a w (hI : SR _ _ _ _ a w); obtain rfl := hI.wp
    exact hQ a hI
theorem ro12 (n : Nat) (W : World) (o N B lk k : Nat) (nx : Nat) (y : Nat) (z : Nat)  (Q : Po) (a : Act) (h0 : SR (rD o N B lk k nx y z) 73 [] W a W)
    (hQ : ∀ a, SR (rD o N B lk k nx y z ++ [(10, ii 0)]) 73 [] W a W → Q .normal a W) : (regOf 12 C29).wpIn Fence.wide n Try.prog Q a W := by
  simp only [regOf, C29, Try.f29, Option.getD, Nat.reduceBEq, Bool.false_eq_true, if_true, if_false]
  refine region_sq (fun k_ a w => match k_ with | 0 => SR (rD o N B lk k nx y z) 73 [] W a w | _ => SR (rD o N B lk k nx y z ++ [(10, ii 0)]) 73 [] W a w) h0 ⟨?_, trivial⟩ ?_
  · intro a w (hI : SR _ _ _ _ a w); obtain rfl := hI.wp; go_simp; exact hI.s 10
  · intro a w (hI : SR _ _ _ _ a w); obtain rfl := hI.wp
    exact hQ a hI
abbrev rE (o N B lk k nx y z x : Nat) : List (Nat × Value) := [(1, sl o N N), (2, pt B 0), (5, sl lk N N), (6, ii k), (7, sl nx N N), (8, ii y), (9, ii z), (10, ii x)]
theorem ro13 (n : Nat) (W : World) (o N B lk k : Nat) (nx : Nat) (y : Nat) (z : Nat) (x : Nat) (X : Nat) (c0 : W.cell? ⟨B, 0, none⟩ = some (ii X)) (Q : Po) (a : Act) (h0 : SR (rE o N B lk k nx y z x) 73 [] W a W)
    (hQ : ∀ a, SR (rE o N B lk k nx y z x ++ [(36, .bool (decide (x < X)))]) 73 [] W a W → Q .normal a W) : (regOf 13 C29).wpIn Fence.wide n Try.prog Q a W := by
  simp only [regOf, C29, Try.f29, Option.getD, Nat.reduceBEq, Bool.false_eq_true, if_true, if_false]
  refine region_sq (fun k_ a w => match k_ with | 0 => SR (rE o N B lk k nx y z x) 73 [] W a w | 1 => SR (rE o N B lk k nx y z x ++ [(33, ii x)]) 73 [] W a w | 2 => SR (rE o N B lk k nx y z x ++ [(33, ii x), (34, pt B 0)]) 73 [] W a w | 3 => SR (rE o N B lk k nx y z x ++ [(33, ii x), (35, ii X)]) 73 [] W a w | _ => SR (rE o N B lk k nx y z x ++ [(36, .bool (decide (x < X)))]) 73 [] W a w) h0 ⟨?_, ?_, ?_, ?_, trivial⟩ ?_
  · intro a w (hI : SR _ _ _ _ a w); have e10 := hI.g 10 rfl; obtain rfl := hI.wp; go_simp; exact hI.s 33
  · intro a w (hI : SR _ _ _ _ a w); have e2 := hI.g 2 rfl; obtain rfl := hI.wp; go_simp; exact hI.s 34
  · intro a w (hI : SR _ _ _ _ a w); have e34 := hI.g 34 rfl; obtain rfl := hI.wp; go_simp; exact hI.s 35
  · intro a w (hI : SR _ _ _ _ a w); have e33 := hI.g 33 rfl; have e35 := hI.g 35 rfl; obtain rfl := hI.wp; go_simp; exact hI.s 36
  · intro a w (hI : SR _ _ _ _ a w); obtain rfl := hI.wp
    exact hQ a hI
theorem ro14 (n : Nat) (W : World) (o N B lk k : Nat) (nx : Nat) (y : Nat) (z : Nat) (x : Nat) (hx : x < 9000000000) (Q : Po) (a : Act) (h0 : SR (rE o N B lk k nx y z x) 73 [] W a W)
    (hQ : ∀ a, SR (rD o N B lk k nx y z ++ [(10, (ii ((x : Int) + 1)))]) 73 [] W a W → Q .normal a W) : (regOf 14 C29).wpIn Fence.wide n Try.prog Q a W := by
  simp only [regOf, C29, Try.f29, Option.getD, Nat.reduceBEq, Bool.false_eq_true, if_true, if_false]
  refine region_sq (fun k_ a w => match k_ with | 0 => SR (rE o N B lk k nx y z x) 73 [] W a w | 1 => SR (rD o N B lk k nx y z ++ [(37, ii x)]) 73 [] W a w | 2 => SR (rD o N B lk k nx y z ++ [(38, (ii ((x : Int) + 1)))]) 73 [] W a w | _ => SR (rD o N B lk k nx y z ++ [(10, (ii ((x : Int) + 1)))]) 73 [] W a w) h0 ⟨?_, ?_, ?_, trivial⟩ ?_
  · intro a w (hI : SR _ _ _ _ a w); have e10 := hI.g 10 rfl; obtain rfl := hI.wp; go_simp; exact hI.s 37
  · intro a w (hI : SR _ _ _ _ a w); have e37 := hI.g 37 rfl; obtain rfl := hI.wp
    have hw1 : IntKind.i64.wrap ((x : Int) + 1) = (x : Int) + 1 := IntWalk.i64_in _ (by omega)
    go_simp; exact hI.s 38
  · intro a w (hI : SR _ _ _ _ a w); have e38 := hI.g 38 rfl; obtain rfl := hI.wp; go_simp; exact hI.s 10
  · intro a w (hI : SR _ _ _ _ a w); obtain rfl := hI.wp
    exact hQ a hI
theorem ro15 (n : Nat) (W : World) (o N B lk k : Nat) (nx : Nat) (y : Nat) (z : Nat) (x : Nat) (X Z p1 p2 p3 i : Nat) (h1 : IntKind.i64.wrap ((y : Int) * Z) = (p1 : Int)) (h2 : IntKind.i64.wrap ((p1 : Int) + z) = (p2 : Int)) (h3 : IntKind.i64.wrap ((p2 : Int) * X) = (p3 : Int)) (h4 : IntKind.i64.wrap ((p3 : Int) + x) = (i : Int)) (c2_ : W.cell? ⟨B, 2, none⟩ = some (ii Z)) (c0 : W.cell? ⟨B, 0, none⟩ = some (ii X)) (Q : Po) (a : Act) (h0 : SR (rE o N B lk k nx y z x) 73 [] W a W)
    (hQ : ∀ a, SR (rE o N B lk k nx y z x ++ [(11, ii i)]) 73 [] W a W → Q .normal a W) : (regOf 15 C29).wpIn Fence.wide n Try.prog Q a W := by
  simp only [regOf, C29, Try.f29, Option.getD, Nat.reduceBEq, Bool.false_eq_true, if_true, if_false]
  refine region_sq (fun k_ a w => match k_ with | 0 => SR (rE o N B lk k nx y z x) 73 [] W a w | 1 => SR (rE o N B lk k nx y z x ++ [(39, ii y)]) 73 [] W a w | 2 => SR (rE o N B lk k nx y z x ++ [(39, ii y), (40, pt B 2)]) 73 [] W a w | 3 => SR (rE o N B lk k nx y z x ++ [(39, ii y), (41, ii Z)]) 73 [] W a w | 4 => SR (rE o N B lk k nx y z x ++ [(42, ii p1)]) 73 [] W a w | 5 => SR (rE o N B lk k nx y z x ++ [(42, ii p1), (43, ii z)]) 73 [] W a w | 6 => SR (rE o N B lk k nx y z x ++ [(44, ii p2)]) 73 [] W a w | 7 => SR (rE o N B lk k nx y z x ++ [(44, ii p2), (45, pt B 0)]) 73 [] W a w | 8 => SR (rE o N B lk k nx y z x ++ [(44, ii p2), (46, ii X)]) 73 [] W a w | 9 => SR (rE o N B lk k nx y z x ++ [(47, ii p3)]) 73 [] W a w | 10 => SR (rE o N B lk k nx y z x ++ [(47, ii p3), (48, ii x)]) 73 [] W a w | 11 => SR (rE o N B lk k nx y z x ++ [(49, ii i)]) 73 [] W a w | _ => SR (rE o N B lk k nx y z x ++ [(11, ii i)]) 73 [] W a w) h0 ⟨?_, ?_, ?_, ?_, ?_, ?_, ?_, ?_, ?_, ?_, ?_, ?_, trivial⟩ ?_
  · intro a w (hI : SR _ _ _ _ a w); have e8 := hI.g 8 rfl; obtain rfl := hI.wp; go_simp; exact hI.s 39
  · intro a w (hI : SR _ _ _ _ a w); have e2 := hI.g 2 rfl; obtain rfl := hI.wp; go_simp; exact hI.s 40
  · intro a w (hI : SR _ _ _ _ a w); have e40 := hI.g 40 rfl; obtain rfl := hI.wp; go_simp; exact hI.s 41
  · intro a w (hI : SR _ _ _ _ a w); have e39 := hI.g 39 rfl; have e41 := hI.g 41 rfl; obtain rfl := hI.wp; go_simp; exact hI.s 42
  · intro a w (hI : SR _ _ _ _ a w); have e9 := hI.g 9 rfl; obtain rfl := hI.wp; go_simp; exact hI.s 43
  · intro a w (hI : SR _ _ _ _ a w); have e42 := hI.g 42 rfl; have e43 := hI.g 43 rfl; obtain rfl := hI.wp; go_simp; exact hI.s 44
  · intro a w (hI : SR _ _ _ _ a w); have e2 := hI.g 2 rfl; obtain rfl := hI.wp; go_simp; exact hI.s 45
  · intro a w (hI : SR _ _ _ _ a w); have e45 := hI.g 45 rfl; obtain rfl := hI.wp; go_simp; exact hI.s 46
  · intro a w (hI : SR _ _ _ _ a w); have e44 := hI.g 44 rfl; have e46 := hI.g 46 rfl; obtain rfl := hI.wp; go_simp; exact hI.s 47
  · intro a w (hI : SR _ _ _ _ a w); have e10 := hI.g 10 rfl; obtain rfl := hI.wp; go_simp; exact hI.s 48
  · intro a w (hI : SR _ _ _ _ a w); have e47 := hI.g 47 rfl; have e48 := hI.g 48 rfl; obtain rfl := hI.wp; go_simp; exact hI.s 49
  · intro a w (hI : SR _ _ _ _ a w); have e49 := hI.g 49 rfl; obtain rfl := hI.wp; go_simp; exact hI.s 11
  · intro a w (hI : SR _ _ _ _ a w); obtain rfl := hI.wp
    exact hQ a hI
abbrev rF (o N B lk k nx y z x i : Nat) : List (Nat × Value) := [(1, sl o N N), (2, pt B 0), (5, sl lk N N), (6, ii k), (7, sl nx N N), (8, ii y), (9, ii z), (10, ii x), (11, ii i)]
theorem ro16 (n : Nat) {G : World → Prop} (hS : Stable G) (o N B lk k : Nat) (nx : Nat) (y : Nat) (z : Nat) (x : Nat) (i : Nat) (g off cap kk v : Nat) (b : Bool) (hi : i < N) (c3 : CE G B 3 (.slice (some ⟨g, off, none⟩) N cap)) (ca0 : CE G g (off + i * 2) (.int .u8 kk)) (ca1 : CE G g (off + i * 2 + 1) (.int .u8 v)) (hc : CR G 37 #[.agg #[.int .u8 kk, .int .u8 v]] (.bool b)) (Q : Po) (a : Act) (w : World) (h0 : SG (rF o N B lk k nx y z x i) 73 G a w)
    (hQ : ∀ a w, SG (rF o N B lk k nx y z x i ++ [(55, .bool b)]) 73 G a w → Q .normal a w) : (regOf 16 C29).wpIn Fence.wide n Try.prog Q a w := by
  simp only [regOf, C29, Try.f29, Option.getD, Nat.reduceBEq, Bool.false_eq_true, if_true, if_false]
  refine region_sq (fun k_ a w => match k_ with | 0 => SG (rF o N B lk k nx y z x i) 73 G a w | 1 => SG (rF o N B lk k nx y z x i ++ [(50, pt B 3)]) 73 G a w | 2 => SG (rF o N B lk k nx y z x i ++ [(51, .slice (some ⟨g, off, none⟩) N cap)]) 73 G a w | 3 => SG (rF o N B lk k nx y z x i ++ [(51, .slice (some ⟨g, off, none⟩) N cap), (52, ii i)]) 73 G a w | 4 => SG (rF o N B lk k nx y z x i ++ [(53, pt g (off + i * 2))]) 73 G a w | 5 => SG (rF o N B lk k nx y z x i ++ [(54, .agg #[.int .u8 kk, .int .u8 v])]) 73 G a w | _ => SG (rF o N B lk k nx y z x i ++ [(55, .bool b)]) 73 G a w) h0 ⟨?_, ?_, ?_, ?_, ?_, ?_, trivial⟩ ?_
  · intro a w (hI : SG _ _ G a w); have e2 := hI.g 2 rfl; go_simp; exact hI.q 50
  · intro a w (hI : SG _ _ G a w); have e50 := hI.g 50 rfl; have cc0 := c3 w hI.wp; go_simp; exact hI.q 51
  · intro a w (hI : SG _ _ G a w); have e11 := hI.g 11 rfl; go_simp; exact hI.q 52
  · intro a w (hI : SG _ _ G a w); have e51 := hI.g 51 rfl; have e52 := hI.g 52 rfl
    have q1_3 : (0 : Int) ≤ i := by omega
    have q2_3 : (i : Int) < N := by omega
    go_simp; exact hI.q 53
  · intro a w (hI : SG _ _ G a w); have e53 := hI.g 53 rfl; have cc0 := ca0 w hI.wp; have cc1 := ca1 w hI.wp; go_simp; exact hI.q 54
  · intro a w (hI : SG _ _ G a w); have e54 := hI.g 54 rfl; go_simp
    refine ⟨trivial, fun h => (by cases h), (hc (n - 1) w hI.wp).mono ?_⟩
    rintro e w' ⟨rfl, hb2⟩
    exact hI.put (d := 55) (by decide) (by simp) (hS _ _ hI.wp hb2)
  · intro a w (hI : SG _ _ G a w)
    exact hQ a w hI
theorem ro17 (n : Nat) {G : World → Prop} (hS : Stable G) (o N B lk k : Nat) (nx : Nat) (y : Nat) (z : Nat) (x : Nat) (i : Nat) (X Y Z : Int) (sp : Option Addr) (cap u : Nat) (c0 : CE G B 0 ((ii X))) (c1 : CE G B 1 ((ii Y))) (c2_ : CE G B 2 ((ii Z))) (c3 : CE G B 3 (.slice sp N cap)) (hc : CR G 38 #[.agg #[(ii X), (ii Y), (ii Z), .slice sp N cap], (sl lk N N), (ii x), (ii y), (ii z)] ((ii u))) (Q : Po) (a : Act) (w : World) (h0 : SG (rF o N B lk k nx y z x i) 73 G a w)
    (hQ : ∀ a w, SG (rF o N B lk k nx y z x i ++ [(12, ii u)]) 73 G a w → Q .normal a w) : (regOf 17 C29).wpIn Fence.wide n Try.prog Q a w := by
  simp only [regOf, C29, Try.f29, Option.getD, Nat.reduceBEq, Bool.false_eq_true, if_true, if_false]
  refine region_sq (fun k_ a w => match k_ with | 0 => SG (rF o N B lk k nx y z x i) 73 G a w | 1 => SG (rF o N B lk k nx y z x i ++ [(56, .agg #[(ii X), (ii Y), (ii Z), .slice sp N cap])]) 73 G a w | 2 => SG (rF o N B lk k nx y z x i ++ [(56, .agg #[(ii X), (ii Y), (ii Z), .slice sp N cap]), (57, sl lk N N)]) 73 G a w | 3 => SG (rF o N B lk k nx y z x i ++ [(56, .agg #[(ii X), (ii Y), (ii Z), .slice sp N cap]), (57, sl lk N N), (58, ii x)]) 73 G a w | 4 => SG (rF o N B lk k nx y z x i ++ [(56, .agg #[(ii X), (ii Y), (ii Z), .slice sp N cap]), (57, sl lk N N), (58, ii x), (59, ii y)]) 73 G a w | 5 => SG (rF o N B lk k nx y z x i ++ [(56, .agg #[(ii X), (ii Y), (ii Z), .slice sp N cap]), (57, sl lk N N), (58, ii x), (59, ii y), (60, ii z)]) 73 G a w | 6 => SG (rF o N B lk k nx y z x i ++ [(61, ii u)]) 73 G a w | _ => SG (rF o N B lk k nx y z x i ++ [(12, ii u)]) 73 G a w) h0 ⟨?_, ?_, ?_, ?_, ?_, ?_, ?_, trivial⟩ ?_
  · intro a w (hI : SG _ _ G a w); have e2 := hI.g 2 rfl; have cc0 := c0 w hI.wp; have cc1 := c1 w hI.wp; have cc2 := c2_ w hI.wp; have cc3 := c3 w hI.wp; go_simp; exact hI.q 56
  · intro a w (hI : SG _ _ G a w); have e5 := hI.g 5 rfl; go_simp; exact hI.q 57
  · intro a w (hI : SG _ _ G a w); have e10 := hI.g 10 rfl; go_simp; exact hI.q 58
  · intro a w (hI : SG _ _ G a w); have e8 := hI.g 8 rfl; go_simp; exact hI.q 59
  · intro a w (hI : SG _ _ G a w); have e9 := hI.g 9 rfl; go_simp; exact hI.q 60
  · intro a w (hI : SG _ _ G a w); have e56 := hI.g 56 rfl; have e57 := hI.g 57 rfl; have e58 := hI.g 58 rfl; have e59 := hI.g 59 rfl; have e60 := hI.g 60 rfl; go_simp
    refine ⟨trivial, fun h => (by cases h), (hc (n - 1) w hI.wp).mono ?_⟩
    rintro e w' ⟨rfl, hb2⟩
    exact hI.put (d := 61) (by decide) (by simp) (hS _ _ hI.wp hb2)
  · intro a w (hI : SG _ _ G a w); have e61 := hI.g 61 rfl; go_simp; exact hI.q 12
  · intro a w (hI : SG _ _ G a w)
    exact hQ a w hI
theorem ro18 (n : Nat) {G G1 : World → Prop} (hS : Stable G) (o N B lk k : Nat) (nx : Nat) (y : Nat) (z : Nat) (x : Nat) (i : Nat) (u s m : Nat) (hi : i < N) (hm : (if s < u then (u : Int) else s) = (m : Int)) (co : CE G o i ((ii s))) (cw : ∀ w, G w → ∃ v, w.cell? ⟨nx, i, none⟩ = some v) (fw : ∀ w, G w → w.frozen? ⟨nx, i, none⟩ = false) (hst : ∀ w, G w → G1 (w.setCell ⟨nx, i, none⟩ ((ii m)))) (Q : Po) (a : Act) (w : World) (h0 : SG (rF o N B lk k nx y z x i ++ [(12, ii u)]) 73 G a w)
    (hQ : ∀ a w, SG (rE o N B lk k nx y z x) 73 G1 a w → Q .normal a w) : (regOf 18 C29).wpIn Fence.wide n Try.prog Q a w := by
  simp only [regOf, C29, Try.f29, Option.getD, Nat.reduceBEq, Bool.false_eq_true, if_true, if_false]
  refine region_sq (fun k_ a w => match k_ with | 0 => SG (rF o N B lk k nx y z x i ++ [(12, ii u)]) 73 G a w | 1 => SG (rF o N B lk k nx y z x i ++ [(12, ii u), (62, sl nx N N)]) 73 G a w | 2 => SG (rF o N B lk k nx y z x i ++ [(12, ii u), (62, sl nx N N), (63, ii i)]) 73 G a w | 3 => SG (rF o N B lk k nx y z x i ++ [(12, ii u), (62, sl nx N N), (63, ii i), (64, sl o N N)]) 73 G a w | 4 => SG (rE o N B lk k nx y z x ++ [(12, ii u), (62, sl nx N N), (63, ii i), (64, sl o N N), (65, ii i)]) 73 G a w | 5 => SG (rE o N B lk k nx y z x ++ [(12, ii u), (62, sl nx N N), (63, ii i), (66, pt o i)]) 73 G a w | 6 => SG (rE o N B lk k nx y z x ++ [(12, ii u), (62, sl nx N N), (63, ii i), (67, ii s)]) 73 G a w | 7 => SG (rE o N B lk k nx y z x ++ [(62, sl nx N N), (63, ii i), (67, ii s), (68, ii u)]) 73 G a w | 8 => SG (rE o N B lk k nx y z x ++ [(62, sl nx N N), (63, ii i), (69, ii m)]) 73 G a w | 9 => SG (rE o N B lk k nx y z x ++ [(69, ii m), (70, pt nx i)]) 73 G a w | _ => SG (rE o N B lk k nx y z x) 73 G1 a w) h0 ⟨?_, ?_, ?_, ?_, ?_, ?_, ?_, ?_, ?_, ?_, trivial⟩ ?_
  · intro a w (hI : SG _ _ G a w); have e7 := hI.g 7 rfl; go_simp; exact hI.q 62
  · intro a w (hI : SG _ _ G a w); have e11 := hI.g 11 rfl; go_simp; exact hI.q 63
  · intro a w (hI : SG _ _ G a w); have e1 := hI.g 1 rfl; go_simp; exact hI.q 64
  · intro a w (hI : SG _ _ G a w); have e11 := hI.g 11 rfl; go_simp; exact hI.q 65
  · intro a w (hI : SG _ _ G a w); have e64 := hI.g 64 rfl; have e65 := hI.g 65 rfl
    have q1_4 : (0 : Int) ≤ i := by omega
    have q2_4 : (i : Int) < N := by omega
    go_simp; exact hI.q 66
  · intro a w (hI : SG _ _ G a w); have e66 := hI.g 66 rfl; have cc0 := co w hI.wp; go_simp; exact hI.q 67
  · intro a w (hI : SG _ _ G a w); have e12 := hI.g 12 rfl; go_simp; exact hI.q 68
  · intro a w (hI : SG _ _ G a w); have e67 := hI.g 67 rfl; have e68 := hI.g 68 rfl; go_simp; exact hI.q 69
  · intro a w (hI : SG _ _ G a w); have e62 := hI.g 62 rfl; have e63 := hI.g 63 rfl
    have q1_8 : (0 : Int) ≤ i := by omega
    have q2_8 : (i : Int) < N := by omega
    go_simp; exact hI.q 70
  · intro a w (hI : SG _ _ G a w); have e70 := hI.g 70 rfl; have e69 := hI.g 69 rfl
    obtain ⟨v0, cw0⟩ := cw w hI.wp
    have fw0 := fw w hI.wp
    go_simp
    exact (hI.none (hst w hI.wp)).sub (by intro p hp; simp only [List.mem_append, List.mem_cons, List.not_mem_nil, or_false] at hp ⊢; rcases hp with hp | hp <;> simp [hp])
  · intro a w (hI : SG _ _ G1 a w)
    exact hQ a w hI
theorem ro20 (n : Nat) (W : World) (lk N : Nat) (Q : Po) (a : Act) (h0 : SR [(5, sl lk N N)] 73 [] W a W)
    (hQ : ∀ a, SR [(4, sl lk N N)] 73 [] W a W → Q .normal a W) : (regOf 20 C29).wpIn Fence.wide n Try.prog Q a W := by
  simp only [regOf, C29, Try.f29, Option.getD, Nat.reduceBEq, Bool.false_eq_true, if_true, if_false]
  refine region_sq (fun k_ a w => match k_ with | 0 => SR [(5, sl lk N N)] 73 [] W a w | 1 => SR [(72, sl lk N N)] 73 [] W a w | _ => SR [(4, sl lk N N)] 73 [] W a w) h0 ⟨?_, ?_, trivial⟩ ?_
  · intro a w (hI : SR _ _ _ _ a w); have e5 := hI.g 5 rfl; obtain rfl := hI.wp; go_simp; exact hI.s 72
  · intro a w (hI : SR _ _ _ _ a w); have e72 := hI.g 72 rfl; obtain rfl := hI.wp; go_simp; exact hI.s 4
  · intro a w (hI : SR _ _ _ _ a w); obtain rfl := hI.wp
    exact hQ a hI
noncomputable def C15 : Code := Try.f15.body.getD .skip
theorem lg0 (n : Nat) (W : World) (X Y Z : Int) (cv : Value) (Q : Po) (a : Act) (h0 : SR [(0, .agg #[(ii X), (ii Y), (ii Z), cv])] 61 [] W a W)
    (hQ : ∀ a, SR [(1, .pointer (some ⟨W.heap.size, 0, none⟩))] 61 [] (W.alloc (.cells #[(ii X), (ii Y), (ii Z), cv] 24)) a (W.alloc (.cells #[(ii X), (ii Y), (ii Z), cv] 24)) → Q .normal a (W.alloc (.cells #[(ii X), (ii Y), (ii Z), cv] 24))) : (regOf 0 C15).wpIn Fence.wide n Try.prog Q a W := by
  simp only [regOf, C15, Try.f15, Option.getD, Nat.reduceBEq, Bool.false_eq_true, if_true, if_false]
  refine region_sq (fun k_ a w => match k_ with | 0 => SR [(0, .agg #[(ii X), (ii Y), (ii Z), cv])] 61 [] W a w | 1 => SR [(1, .pointer (some ⟨W.heap.size, 0, none⟩))] 61 [] (W.alloc (.cells #[(ii X), (ii Y), (ii Z), cv] 24)) a w | _ => SR [(1, .pointer (some ⟨W.heap.size, 0, none⟩))] 61 [] (W.alloc (.cells #[(ii X), (ii Y), (ii Z), cv] 24)) a w) h0 ⟨?_, ?_, trivial⟩ ?_
  · intro a w (hI : SR _ _ _ _ a w); have e0 := hI.g 0 rfl; obtain rfl := hI.wp; go_simp; exact hI.s 1
  · intro a w (hI : SR _ _ _ _ a w); obtain rfl := hI.wp; go_simp; exact hI.s 2
  · intro a w (hI : SR _ _ _ _ a w); obtain rfl := hI.wp
    exact hQ a hI
theorem lg1 (n : Nat) {G : World → Prop} (B N : Nat) (sp : Option Addr) (cap : Nat) (c3 : CE G B 3 (.slice sp N cap)) (hN2 : N ≤ 262144) (G1 : Nat → World → Prop) (hst : ∀ w, G w → G1 w.heap.size (w.alloc (.cells (madeCells #[(ii 0)] N) 3))) (Q : Po) (a : Act) (w : World) (h0 : SG [(1, pt B 0)] 61 G a w)
    (hQ : ∀ g3 a w, SG [(1, pt B 0), (3, sl g3 N N)] 61 (G1 g3) a w → Q .normal a w) : (regOf 1 C15).wpIn Fence.wide n Try.prog Q a w := by
  obtain ⟨i0, hi, hz0, hz1, hz2⟩ := info_parts info3b
  simp only [regOf, C15, Try.f15, Option.getD, Nat.reduceBEq, Bool.false_eq_true, if_true, if_false]
  refine region_sq (fun k_ a w => match k_ with | 0 => SG [(1, pt B 0)] 61 G a w | 1 => SG [(1, pt B 0), (10, pt B 3)] 61 G a w | 2 => SG [(1, pt B 0), (11, .slice sp N cap)] 61 G a w | 3 => SG [(1, pt B 0), (12, ii N)] 61 G a w | 4 => ∃ g3, SG [(1, pt B 0), (13, sl g3 N N)] 61 (G1 g3) a w | _ => ∃ g3, SG [(1, pt B 0), (3, sl g3 N N)] 61 (G1 g3) a w) h0 ⟨?_, ?_, ?_, ?_, ?_, trivial⟩ ?_
  · intro a w (hI : SG _ _ G a w); have e1 := hI.g 1 rfl; go_simp; exact hI.q 10
  · intro a w (hI : SG _ _ G a w); have e10 := hI.g 10 rfl; have cc0 := c3 w hI.wp; go_simp; exact hI.q 11
  · intro a w (hI : SG _ _ G a w); have e11 := hI.g 11 rfl; go_simp; exact hI.q 12
  · intro a w (hI : SG _ _ G a w); have e12 := hI.g 12 rfl
    have hmk := run_make (P := Try.prog) w 40 3 i0 ((ii 0)) under40b hi hz0 .i64 .i64 N N (by omega) (Int.le_refl _) (by rw [hz2]; omega) (by omega)
    rw [Int.toNat_natCast, hz1, Nat.mul_one] at hmk
    replace hmk : (Instr.makeSlice 40 ((ii N)) ((ii N))).run Try.prog w = .ok (.slice (some ⟨w.heap.size, 0, none⟩) N N) (w.alloc (.cells (madeCells #[(ii 0)] N) 3)) := hmk
    go_simp
    exact ⟨w.heap.size, hI.put (d := 13) (by decide) (by simp) (hst w hI.wp)⟩
  · rintro a w ⟨g3, hI⟩
    have e13 := hI.g 13 rfl; go_simp
    exact ⟨g3, hI.q 3⟩
  · rintro a w ⟨g3, hI⟩
    exact hQ g3 a w hI
theorem lg2 (n : Nat) (W : World) (B g3 N : Nat)  (Q : Po) (a : Act) (h0 : SR [(1, pt B 0), (3, sl g3 N N)] 61 [] W a W)
    (hQ : ∀ a, SR [(1, pt B 0), (3, sl g3 N N), (4, ii 0)] 61 [] W a W → Q .normal a W) : (regOf 2 C15).wpIn Fence.wide n Try.prog Q a W := by
  simp only [regOf, C15, Try.f15, Option.getD, Nat.reduceBEq, Bool.false_eq_true, if_true, if_false]
  refine region_sq (fun k_ a w => match k_ with | 0 => SR [(1, pt B 0), (3, sl g3 N N)] 61 [] W a w | _ => SR [(1, pt B 0), (3, sl g3 N N), (4, ii 0)] 61 [] W a w) h0 ⟨?_, trivial⟩ ?_
  · intro a w (hI : SR _ _ _ _ a w); obtain rfl := hI.wp; go_simp; exact hI.s 4
  · intro a w (hI : SR _ _ _ _ a w); obtain rfl := hI.wp
    exact hQ a hI
theorem lg3 (n : Nat) (W : World) (B g3 N : Nat) (i : Nat) (sp : Option Addr) (cap : Nat) (c3 : W.cell? ⟨B, 3, none⟩ = some (.slice sp N cap)) (Q : Po) (a : Act) (h0 : SR [(1, pt B 0), (3, sl g3 N N), (4, ii i)] 61 [] W a W)
    (hQ : ∀ a, SR [(1, pt B 0), (3, sl g3 N N), (4, ii i), (18, .bool (decide (i < N)))] 61 [] W a W → Q .normal a W) : (regOf 3 C15).wpIn Fence.wide n Try.prog Q a W := by
  simp only [regOf, C15, Try.f15, Option.getD, Nat.reduceBEq, Bool.false_eq_true, if_true, if_false]
  refine region_sq (fun k_ a w => match k_ with | 0 => SR [(1, pt B 0), (3, sl g3 N N), (4, ii i)] 61 [] W a w | 1 => SR [(1, pt B 0), (3, sl g3 N N), (4, ii i), (14, ii i)] 61 [] W a w | 2 => SR [(1, pt B 0), (3, sl g3 N N), (4, ii i), (14, ii i), (15, pt B 3)] 61 [] W a w | 3 => SR [(1, pt B 0), (3, sl g3 N N), (4, ii i), (14, ii i), (16, .slice sp N cap)] 61 [] W a w | 4 => SR [(1, pt B 0), (3, sl g3 N N), (4, ii i), (14, ii i), (17, ii N)] 61 [] W a w | _ => SR [(1, pt B 0), (3, sl g3 N N), (4, ii i), (18, .bool (decide (i < N)))] 61 [] W a w) h0 ⟨?_, ?_, ?_, ?_, ?_, trivial⟩ ?_
  · intro a w (hI : SR _ _ _ _ a w); have e4 := hI.g 4 rfl; obtain rfl := hI.wp; go_simp; exact hI.s 14
  · intro a w (hI : SR _ _ _ _ a w); have e1 := hI.g 1 rfl; obtain rfl := hI.wp; go_simp; exact hI.s 15
  · intro a w (hI : SR _ _ _ _ a w); have e15 := hI.g 15 rfl; obtain rfl := hI.wp; go_simp; exact hI.s 16
  · intro a w (hI : SR _ _ _ _ a w); have e16 := hI.g 16 rfl; obtain rfl := hI.wp; go_simp; exact hI.s 17
  · intro a w (hI : SR _ _ _ _ a w); have e14 := hI.g 14 rfl; have e17 := hI.g 17 rfl; obtain rfl := hI.wp; go_simp; exact hI.s 18
  · intro a w (hI : SR _ _ _ _ a w); obtain rfl := hI.wp
    exact hQ a hI
theorem lg4 (n : Nat) (W : World) (B g3 N : Nat) (i : Nat) (hi : i < 9000000000) (Q : Po) (a : Act) (h0 : SR [(1, pt B 0), (3, sl g3 N N), (4, ii i)] 61 [] W a W)
    (hQ : ∀ a, SR [(1, pt B 0), (3, sl g3 N N), (4, (ii ((i : Int) + 1)))] 61 [] W a W → Q .normal a W) : (regOf 4 C15).wpIn Fence.wide n Try.prog Q a W := by
  simp only [regOf, C15, Try.f15, Option.getD, Nat.reduceBEq, Bool.false_eq_true, if_true, if_false]
  refine region_sq (fun k_ a w => match k_ with | 0 => SR [(1, pt B 0), (3, sl g3 N N), (4, ii i)] 61 [] W a w | 1 => SR [(1, pt B 0), (3, sl g3 N N), (19, ii i)] 61 [] W a w | 2 => SR [(1, pt B 0), (3, sl g3 N N), (20, (ii ((i : Int) + 1)))] 61 [] W a w | _ => SR [(1, pt B 0), (3, sl g3 N N), (4, (ii ((i : Int) + 1)))] 61 [] W a w) h0 ⟨?_, ?_, ?_, trivial⟩ ?_
  · intro a w (hI : SR _ _ _ _ a w); have e4 := hI.g 4 rfl; obtain rfl := hI.wp; go_simp; exact hI.s 19
  · intro a w (hI : SR _ _ _ _ a w); have e19 := hI.g 19 rfl; obtain rfl := hI.wp
    have hw1 : IntKind.i64.wrap ((i : Int) + 1) = (i : Int) + 1 := IntWalk.i64_in _ (by omega)
    go_simp; exact hI.s 20
  · intro a w (hI : SR _ _ _ _ a w); have e20 := hI.g 20 rfl; obtain rfl := hI.wp; go_simp; exact hI.s 4
  · intro a w (hI : SR _ _ _ _ a w); obtain rfl := hI.wp
    exact hQ a hI
theorem lg5 (n : Nat) {G G1 : World → Prop} (hS : Stable G) (B g3 N : Nat) (i : Nat) (g off cap k v lm : Nat) (hi : i < N) (hw : IntKind.i64.wrap (lm : Int) = (lm : Int)) (c3 : CE G B 3 (.slice (some ⟨g, off, none⟩) N cap)) (ca0 : CE G g (off + i * 2) (.int .u8 k)) (ca1 : CE G g (off + i * 2 + 1) (.int .u8 v)) (hl : CR G 27 #[.agg #[.int .u8 k, .int .u8 v]] (.int .u8 lm)) (cw : ∀ w, G w → ∃ v, w.cell? ⟨g3, i, none⟩ = some v) (fw : ∀ w, G w → w.frozen? ⟨g3, i, none⟩ = false) (hst : ∀ w, G w → G1 (w.setCell ⟨g3, i, none⟩ ((ii lm)))) (Q : Po) (a : Act) (w : World) (h0 : SG [(1, pt B 0), (3, sl g3 N N), (4, ii i)] 61 G a w)
    (hQ : ∀ a w, SG [(1, pt B 0), (3, sl g3 N N), (4, ii i)] 61 G1 a w → Q .normal a w) : (regOf 5 C15).wpIn Fence.wide n Try.prog Q a w := by
  simp only [regOf, C15, Try.f15, Option.getD, Nat.reduceBEq, Bool.false_eq_true, if_true, if_false]
  refine region_sq (fun k_ a w => match k_ with | 0 => SG [(1, pt B 0), (3, sl g3 N N), (4, ii i)] 61 G a w | 1 => SG [(1, pt B 0), (3, sl g3 N N), (4, ii i), (21, sl g3 N N)] 61 G a w | 2 => SG [(1, pt B 0), (3, sl g3 N N), (4, ii i), (21, sl g3 N N), (22, ii i)] 61 G a w | 3 => SG [(1, pt B 0), (3, sl g3 N N), (4, ii i), (21, sl g3 N N), (22, ii i), (23, pt B 3)] 61 G a w | 4 => SG [(1, pt B 0), (3, sl g3 N N), (4, ii i), (21, sl g3 N N), (22, ii i), (24, .slice (some ⟨g, off, none⟩) N cap)] 61 G a w | 5 => SG [(1, pt B 0), (3, sl g3 N N), (4, ii i), (21, sl g3 N N), (22, ii i), (24, .slice (some ⟨g, off, none⟩) N cap), (25, ii i)] 61 G a w | 6 => SG [(1, pt B 0), (3, sl g3 N N), (4, ii i), (21, sl g3 N N), (22, ii i), (26, pt g (off + i * 2))] 61 G a w | 7 => SG [(1, pt B 0), (3, sl g3 N N), (4, ii i), (21, sl g3 N N), (22, ii i), (27, .agg #[.int .u8 k, .int .u8 v])] 61 G a w | 8 => SG [(1, pt B 0), (3, sl g3 N N), (4, ii i), (21, sl g3 N N), (22, ii i), (28, .int .u8 lm)] 61 G a w | 9 => SG [(1, pt B 0), (3, sl g3 N N), (4, ii i), (21, sl g3 N N), (22, ii i), (29, ii lm)] 61 G a w | 10 => SG [(1, pt B 0), (3, sl g3 N N), (4, ii i), (29, ii lm), (30, pt g3 i)] 61 G a w | _ => SG [(1, pt B 0), (3, sl g3 N N), (4, ii i)] 61 G1 a w) h0 ⟨?_, ?_, ?_, ?_, ?_, ?_, ?_, ?_, ?_, ?_, ?_, trivial⟩ ?_
  · intro a w (hI : SG _ _ G a w); have e3 := hI.g 3 rfl; go_simp; exact hI.q 21
  · intro a w (hI : SG _ _ G a w); have e4 := hI.g 4 rfl; go_simp; exact hI.q 22
  · intro a w (hI : SG _ _ G a w); have e1 := hI.g 1 rfl; go_simp; exact hI.q 23
  · intro a w (hI : SG _ _ G a w); have e23 := hI.g 23 rfl; have cc0 := c3 w hI.wp; go_simp; exact hI.q 24
  · intro a w (hI : SG _ _ G a w); have e4 := hI.g 4 rfl; go_simp; exact hI.q 25
  · intro a w (hI : SG _ _ G a w); have e24 := hI.g 24 rfl; have e25 := hI.g 25 rfl
    have q1_5 : (0 : Int) ≤ i := by omega
    have q2_5 : (i : Int) < N := by omega
    go_simp; exact hI.q 26
  · intro a w (hI : SG _ _ G a w); have e26 := hI.g 26 rfl; have cc0 := ca0 w hI.wp; have cc1 := ca1 w hI.wp; go_simp; exact hI.q 27
  · intro a w (hI : SG _ _ G a w); have e27 := hI.g 27 rfl; go_simp
    refine ⟨trivial, fun h => (by cases h), (hl (n - 1) w hI.wp).mono ?_⟩
    rintro e w' ⟨rfl, hb2⟩
    exact hI.put (d := 28) (by decide) (by simp) (hS _ _ hI.wp hb2)
  · intro a w (hI : SG _ _ G a w); have e28 := hI.g 28 rfl; go_simp; exact hI.q 29
  · intro a w (hI : SG _ _ G a w); have e21 := hI.g 21 rfl; have e22 := hI.g 22 rfl
    have q1_9 : (0 : Int) ≤ i := by omega
    have q2_9 : (i : Int) < N := by omega
    go_simp; exact hI.q 30
  · intro a w (hI : SG _ _ G a w); have e30 := hI.g 30 rfl; have e29 := hI.g 29 rfl
    obtain ⟨v0, cw0⟩ := cw w hI.wp
    have fw0 := fw w hI.wp
    go_simp
    exact (hI.none (hst w hI.wp)).sub (by intro p hp; simp only [List.mem_cons, List.not_mem_nil, or_false] at hp ⊢; rcases hp with h | h | h <;> simp [h])
  · intro a w (hI : SG _ _ G1 a w)
    exact hQ a w hI
theorem lg6 (n : Nat) {G : World → Prop} (B g3 N : Nat) (X Y Z : Int) (sp : Option Addr) (cap : Nat) (G1 : Nat → World → Prop) (c0 : CE G B 0 ((ii X))) (c1 : CE G B 1 ((ii Y))) (c2_ : CE G B 2 ((ii Z))) (c3 : CE G B 3 (.slice sp N cap)) (hc : ∀ m w, G w → CallsIn Fence.wide m Try.prog 28 #[.agg #[(ii X), (ii Y), (ii Z), .slice sp N cap]] w fun e w' => ∃ (o : Nat), e = .returned ((sl o N N)) ∧ (G1 o) w') (Q : Po) (a : Act) (w : World) (h0 : SG [(1, pt B 0), (3, sl g3 N N)] 61 G a w)
    (hQ : ∀ (o : Nat) a w, SG [(1, pt B 0), (3, sl g3 N N), (5, sl o N N)] 61 (G1 o) a w → Q .normal a w) : (regOf 6 C15).wpIn Fence.wide n Try.prog Q a w := by
  simp only [regOf, C15, Try.f15, Option.getD, Nat.reduceBEq, Bool.false_eq_true, if_true, if_false]
  refine region_sq (fun k_ a w => match k_ with | 0 => SG [(1, pt B 0), (3, sl g3 N N)] 61 G a w | 1 => SG [(1, pt B 0), (3, sl g3 N N), (31, .agg #[(ii X), (ii Y), (ii Z), .slice sp N cap])] 61 G a w | 2 => ∃ (o : Nat), SG [(1, pt B 0), (3, sl g3 N N), (32, sl o N N)] 61 (G1 o) a w | _ => ∃ (o : Nat), SG [(1, pt B 0), (3, sl g3 N N), (5, sl o N N)] 61 (G1 o) a w) h0 ⟨?_, ?_, ?_, trivial⟩ ?_
  · intro a w (hI : SG _ _ G a w); have e1 := hI.g 1 rfl; have cc0 := c0 w hI.wp; have cc1 := c1 w hI.wp; have cc2 := c2_ w hI.wp; have cc3 := c3 w hI.wp; go_simp; exact hI.q 31
  · intro a w (hI : SG _ _ G a w); have e31 := hI.g 31 rfl; go_simp
    refine ⟨trivial, fun h => (by cases h), (hc (n - 1) w hI.wp).mono ?_⟩
    rintro e w' ⟨o, rfl, hg2⟩
    exact ⟨o, hI.put (d := 32) (by decide) (by simp) hg2⟩
  · rintro a w ⟨o, hI⟩
    have e32 := hI.g 32 rfl; go_simp
    exact ⟨o, hI.q 5⟩
  · rintro a w ⟨o, hI⟩
    exact hQ o a w hI
theorem lg7 (n : Nat) {G : World → Prop} (B g3 N : Nat) (o : Nat) (X Y Z : Int) (sp : Option Addr) (cap : Nat) (G1 : Nat → World → Prop) (c0 : CE G B 0 ((ii X))) (c1 : CE G B 1 ((ii Y))) (c2_ : CE G B 2 ((ii Z))) (c3 : CE G B 3 (.slice sp N cap)) (hc : ∀ m w, G w → CallsIn Fence.wide m Try.prog 29 #[.agg #[(ii X), (ii Y), (ii Z), .slice sp N cap], (sl o N N)] w fun e w' => ∃ (r1 : Nat), e = .returned ((sl r1 N N)) ∧ (G1 r1) w') (Q : Po) (a : Act) (w : World) (h0 : SG [(1, pt B 0), (3, sl g3 N N), (5, sl o N N)] 61 G a w)
    (hQ : ∀ (r1 : Nat) a w, SG [(1, pt B 0), (3, sl g3 N N), (6, sl r1 N N)] 61 (G1 r1) a w → Q .normal a w) : (regOf 7 C15).wpIn Fence.wide n Try.prog Q a w := by
  simp only [regOf, C15, Try.f15, Option.getD, Nat.reduceBEq, Bool.false_eq_true, if_true, if_false]
  refine region_sq (fun k_ a w => match k_ with | 0 => SG [(1, pt B 0), (3, sl g3 N N), (5, sl o N N)] 61 G a w | 1 => SG [(1, pt B 0), (3, sl g3 N N), (5, sl o N N), (33, .agg #[(ii X), (ii Y), (ii Z), .slice sp N cap])] 61 G a w | 2 => SG [(1, pt B 0), (3, sl g3 N N), (33, .agg #[(ii X), (ii Y), (ii Z), .slice sp N cap]), (34, sl o N N)] 61 G a w | 3 => ∃ (r1 : Nat), SG [(1, pt B 0), (3, sl g3 N N), (35, sl r1 N N)] 61 (G1 r1) a w | _ => ∃ (r1 : Nat), SG [(1, pt B 0), (3, sl g3 N N), (6, sl r1 N N)] 61 (G1 r1) a w) h0 ⟨?_, ?_, ?_, ?_, trivial⟩ ?_
  · intro a w (hI : SG _ _ G a w); have e1 := hI.g 1 rfl; have cc0 := c0 w hI.wp; have cc1 := c1 w hI.wp; have cc2 := c2_ w hI.wp; have cc3 := c3 w hI.wp; go_simp; exact hI.q 33
  · intro a w (hI : SG _ _ G a w); have e5 := hI.g 5 rfl; go_simp; exact hI.q 34
  · intro a w (hI : SG _ _ G a w); have e33 := hI.g 33 rfl; have e34 := hI.g 34 rfl; go_simp
    refine ⟨trivial, fun h => (by cases h), (hc (n - 1) w hI.wp).mono ?_⟩
    rintro e w' ⟨r1, rfl, hg2⟩
    exact ⟨r1, hI.put (d := 35) (by decide) (by simp) hg2⟩
  · rintro a w ⟨r1, hI⟩
    have e35 := hI.g 35 rfl; go_simp
    exact ⟨r1, hI.q 6⟩
  · rintro a w ⟨r1, hI⟩
    exact hQ r1 a w hI
theorem lg8 (n : Nat) {G : World → Prop} (B g3 N : Nat) (r1 : Nat) (X Y Z : Int) (sp : Option Addr) (cap : Nat) (G1 : Nat → World → Prop) (c0 : CE G B 0 ((ii X))) (c1 : CE G B 1 ((ii Y))) (c2_ : CE G B 2 ((ii Z))) (c3 : CE G B 3 (.slice sp N cap)) (hc : ∀ m w, G w → CallsIn Fence.wide m Try.prog 29 #[.agg #[(ii X), (ii Y), (ii Z), .slice sp N cap], (sl g3 N N)] w fun e w' => ∃ (r2 : Nat), e = .returned ((sl r2 N N)) ∧ (G1 r2) w') (Q : Po) (a : Act) (w : World) (h0 : SG [(1, pt B 0), (3, sl g3 N N), (6, sl r1 N N)] 61 G a w)
    (hQ : ∀ (r2 : Nat) a w, SG [(1, pt B 0), (6, sl r1 N N), (7, sl r2 N N)] 61 (G1 r2) a w → Q .normal a w) : (regOf 8 C15).wpIn Fence.wide n Try.prog Q a w := by
  simp only [regOf, C15, Try.f15, Option.getD, Nat.reduceBEq, Bool.false_eq_true, if_true, if_false]
  refine region_sq (fun k_ a w => match k_ with | 0 => SG [(1, pt B 0), (3, sl g3 N N), (6, sl r1 N N)] 61 G a w | 1 => SG [(1, pt B 0), (3, sl g3 N N), (6, sl r1 N N), (36, .agg #[(ii X), (ii Y), (ii Z), .slice sp N cap])] 61 G a w | 2 => SG [(1, pt B 0), (6, sl r1 N N), (36, .agg #[(ii X), (ii Y), (ii Z), .slice sp N cap]), (37, sl g3 N N)] 61 G a w | 3 => ∃ (r2 : Nat), SG [(1, pt B 0), (6, sl r1 N N), (38, sl r2 N N)] 61 (G1 r2) a w | _ => ∃ (r2 : Nat), SG [(1, pt B 0), (6, sl r1 N N), (7, sl r2 N N)] 61 (G1 r2) a w) h0 ⟨?_, ?_, ?_, ?_, trivial⟩ ?_
  · intro a w (hI : SG _ _ G a w); have e1 := hI.g 1 rfl; have cc0 := c0 w hI.wp; have cc1 := c1 w hI.wp; have cc2 := c2_ w hI.wp; have cc3 := c3 w hI.wp; go_simp; exact hI.q 36
  · intro a w (hI : SG _ _ G a w); have e3 := hI.g 3 rfl; go_simp; exact hI.q 37
  · intro a w (hI : SG _ _ G a w); have e36 := hI.g 36 rfl; have e37 := hI.g 37 rfl; go_simp
    refine ⟨trivial, fun h => (by cases h), (hc (n - 1) w hI.wp).mono ?_⟩
    rintro e w' ⟨r2, rfl, hg2⟩
    exact ⟨r2, hI.put (d := 38) (by decide) (by simp) hg2⟩
  · rintro a w ⟨r2, hI⟩
    have e38 := hI.g 38 rfl; go_simp
    exact ⟨r2, hI.q 7⟩
  · rintro a w ⟨r2, hI⟩
    exact hQ r2 a w hI
theorem lg9 (n : Nat) (W : World) (B r1 r2 N : Nat)  (Q : Po) (a : Act) (h0 : SR [(1, pt B 0), (6, sl r1 N N), (7, sl r2 N N)] 61 [] W a W)
    (hQ : ∀ a, SR [(1, pt B 0), (6, sl r1 N N), (7, sl r2 N N), (8, .slice none 0 0)] 61 [] W a W → Q .normal a W) : (regOf 9 C15).wpIn Fence.wide n Try.prog Q a W := by
  simp only [regOf, C15, Try.f15, Option.getD, Nat.reduceBEq, Bool.false_eq_true, if_true, if_false]
  refine region_sq (fun k_ a w => match k_ with | 0 => SR [(1, pt B 0), (6, sl r1 N N), (7, sl r2 N N)] 61 [] W a w | _ => SR [(1, pt B 0), (6, sl r1 N N), (7, sl r2 N N), (8, .slice none 0 0)] 61 [] W a w) h0 ⟨?_, trivial⟩ ?_
  · intro a w (hI : SR _ _ _ _ a w); obtain rfl := hI.wp; go_simp; exact hI.s 8
  · intro a w (hI : SR _ _ _ _ a w); obtain rfl := hI.wp
    exact hQ a hI
theorem lg10 (n : Nat) (W : World) (B r1 r2 N : Nat) (q : Value) (Q : Po) (a : Act) (h0 : SR [(1, pt B 0), (6, sl r1 N N), (7, sl r2 N N), (8, q)] 61 [] W a W)
    (hQ : ∀ a, SR [(1, pt B 0), (6, sl r1 N N), (7, sl r2 N N), (8, q), (9, ii 0)] 61 [] W a W → Q .normal a W) : (regOf 10 C15).wpIn Fence.wide n Try.prog Q a W := by
  simp only [regOf, C15, Try.f15, Option.getD, Nat.reduceBEq, Bool.false_eq_true, if_true, if_false]
  refine region_sq (fun k_ a w => match k_ with | 0 => SR [(1, pt B 0), (6, sl r1 N N), (7, sl r2 N N), (8, q)] 61 [] W a w | _ => SR [(1, pt B 0), (6, sl r1 N N), (7, sl r2 N N), (8, q), (9, ii 0)] 61 [] W a w) h0 ⟨?_, trivial⟩ ?_
  · intro a w (hI : SR _ _ _ _ a w); obtain rfl := hI.wp; go_simp; exact hI.s 9
  · intro a w (hI : SR _ _ _ _ a w); obtain rfl := hI.wp
    exact hQ a hI
theorem lg11 (n : Nat) (W : World) (B r1 r2 N : Nat) (q : Value) (i : Nat) (sp : Option Addr) (cap : Nat) (c3 : W.cell? ⟨B, 3, none⟩ = some (.slice sp N cap)) (Q : Po) (a : Act) (h0 : SR [(1, pt B 0), (6, sl r1 N N), (7, sl r2 N N), (8, q), (9, ii i)] 61 [] W a W)
    (hQ : ∀ a, SR [(1, pt B 0), (6, sl r1 N N), (7, sl r2 N N), (8, q), (9, ii i), (43, .bool (decide (i < N)))] 61 [] W a W → Q .normal a W) : (regOf 11 C15).wpIn Fence.wide n Try.prog Q a W := by
  simp only [regOf, C15, Try.f15, Option.getD, Nat.reduceBEq, Bool.false_eq_true, if_true, if_false]
  refine region_sq (fun k_ a w => match k_ with | 0 => SR [(1, pt B 0), (6, sl r1 N N), (7, sl r2 N N), (8, q), (9, ii i)] 61 [] W a w | 1 => SR [(1, pt B 0), (6, sl r1 N N), (7, sl r2 N N), (8, q), (9, ii i), (39, ii i)] 61 [] W a w | 2 => SR [(1, pt B 0), (6, sl r1 N N), (7, sl r2 N N), (8, q), (9, ii i), (39, ii i), (40, pt B 3)] 61 [] W a w | 3 => SR [(1, pt B 0), (6, sl r1 N N), (7, sl r2 N N), (8, q), (9, ii i), (39, ii i), (41, .slice sp N cap)] 61 [] W a w | 4 => SR [(1, pt B 0), (6, sl r1 N N), (7, sl r2 N N), (8, q), (9, ii i), (39, ii i), (42, ii N)] 61 [] W a w | _ => SR [(1, pt B 0), (6, sl r1 N N), (7, sl r2 N N), (8, q), (9, ii i), (43, .bool (decide (i < N)))] 61 [] W a w) h0 ⟨?_, ?_, ?_, ?_, ?_, trivial⟩ ?_
  · intro a w (hI : SR _ _ _ _ a w); have e9 := hI.g 9 rfl; obtain rfl := hI.wp; go_simp; exact hI.s 39
  · intro a w (hI : SR _ _ _ _ a w); have e1 := hI.g 1 rfl; obtain rfl := hI.wp; go_simp; exact hI.s 40
  · intro a w (hI : SR _ _ _ _ a w); have e40 := hI.g 40 rfl; obtain rfl := hI.wp; go_simp; exact hI.s 41
  · intro a w (hI : SR _ _ _ _ a w); have e41 := hI.g 41 rfl; obtain rfl := hI.wp; go_simp; exact hI.s 42
  · intro a w (hI : SR _ _ _ _ a w); have e39 := hI.g 39 rfl; have e42 := hI.g 42 rfl; obtain rfl := hI.wp; go_simp; exact hI.s 43
  · intro a w (hI : SR _ _ _ _ a w); obtain rfl := hI.wp
    exact hQ a hI
theorem lg12 (n : Nat) (W : World) (B r1 r2 N : Nat) (q : Value) (i : Nat) (hi : i < 9000000000) (Q : Po) (a : Act) (h0 : SR [(1, pt B 0), (6, sl r1 N N), (7, sl r2 N N), (8, q), (9, ii i)] 61 [] W a W)
    (hQ : ∀ a, SR [(1, pt B 0), (6, sl r1 N N), (7, sl r2 N N), (8, q), (9, (ii ((i : Int) + 1)))] 61 [] W a W → Q .normal a W) : (regOf 12 C15).wpIn Fence.wide n Try.prog Q a W := by
  simp only [regOf, C15, Try.f15, Option.getD, Nat.reduceBEq, Bool.false_eq_true, if_true, if_false]
  refine region_sq (fun k_ a w => match k_ with | 0 => SR [(1, pt B 0), (6, sl r1 N N), (7, sl r2 N N), (8, q), (9, ii i)] 61 [] W a w | 1 => SR [(1, pt B 0), (6, sl r1 N N), (7, sl r2 N N), (8, q), (44, ii i)] 61 [] W a w | 2 => SR [(1, pt B 0), (6, sl r1 N N), (7, sl r2 N N), (8, q), (45, (ii ((i : Int) + 1)))] 61 [] W a w | _ => SR [(1, pt B 0), (6, sl r1 N N), (7, sl r2 N N), (8, q), (9, (ii ((i : Int) + 1)))] 61 [] W a w) h0 ⟨?_, ?_, ?_, trivial⟩ ?_
  · intro a w (hI : SR _ _ _ _ a w); have e9 := hI.g 9 rfl; obtain rfl := hI.wp; go_simp; exact hI.s 44
  · intro a w (hI : SR _ _ _ _ a w); have e44 := hI.g 44 rfl; obtain rfl := hI.wp
    have hw1 : IntKind.i64.wrap ((i : Int) + 1) = (i : Int) + 1 := IntWalk.i64_in _ (by omega)
    go_simp; exact hI.s 45
  · intro a w (hI : SR _ _ _ _ a w); have e45 := hI.g 45 rfl; obtain rfl := hI.wp; go_simp; exact hI.s 9
  · intro a w (hI : SR _ _ _ _ a w); obtain rfl := hI.wp
    exact hQ a hI
theorem lg14 (n : Nat) (W : World) (q : Value) (Q : Po) (a : Act) (h0 : SR [(8, q)] 61 [] W a W)
    (hQ : ∀ a, SR [(2, q)] 61 [] W a W → Q .normal a W) : (regOf 14 C15).wpIn Fence.wide n Try.prog Q a W := by
  simp only [regOf, C15, Try.f15, Option.getD, Nat.reduceBEq, Bool.false_eq_true, if_true, if_false]
  refine region_sq (fun k_ a w => match k_ with | 0 => SR [(8, q)] 61 [] W a w | 1 => SR [(60, q)] 61 [] W a w | _ => SR [(2, q)] 61 [] W a w) h0 ⟨?_, ?_, trivial⟩ ?_
  · intro a w (hI : SR _ _ _ _ a w); have e8 := hI.g 8 rfl; obtain rfl := hI.wp; go_simp; exact hI.s 60
  · intro a w (hI : SR _ _ _ _ a w); have e60 := hI.g 60 rfl; obtain rfl := hI.wp; go_simp; exact hI.s 2
  · intro a w (hI : SR _ _ _ _ a w); obtain rfl := hI.wp
    exact hQ a hI
noncomputable def C3 : Code := Try.f3.body.getD .skip
theorem gl0 (n : Nat) (W : World) (X Y Z : Int) (cv : Value) (Q : Po) (a : Act) (h0 : SR [(0, .agg #[(ii X), (ii Y), (ii Z), cv])] 71 [] W a W)
    (hQ : ∀ a, SR [(1, .pointer (some ⟨W.heap.size, 0, none⟩))] 71 [] (W.alloc (.cells #[(ii X), (ii Y), (ii Z), cv] 24)) a (W.alloc (.cells #[(ii X), (ii Y), (ii Z), cv] 24)) → Q .normal a (W.alloc (.cells #[(ii X), (ii Y), (ii Z), cv] 24))) : (regOf 0 C3).wpIn Fence.wide n Try.prog Q a W := by
  simp only [regOf, C3, Try.f3, Option.getD, Nat.reduceBEq, Bool.false_eq_true, if_true, if_false]
  refine region_sq (fun k_ a w => match k_ with | 0 => SR [(0, .agg #[(ii X), (ii Y), (ii Z), cv])] 71 [] W a w | 1 => SR [(1, .pointer (some ⟨W.heap.size, 0, none⟩))] 71 [] (W.alloc (.cells #[(ii X), (ii Y), (ii Z), cv] 24)) a w | _ => SR [(1, .pointer (some ⟨W.heap.size, 0, none⟩))] 71 [] (W.alloc (.cells #[(ii X), (ii Y), (ii Z), cv] 24)) a w) h0 ⟨?_, ?_, trivial⟩ ?_
  · intro a w (hI : SR _ _ _ _ a w); have e0 := hI.g 0 rfl; obtain rfl := hI.wp; go_simp; exact hI.s 1
  · intro a w (hI : SR _ _ _ _ a w); obtain rfl := hI.wp; go_simp; exact hI.s 2
  · intro a w (hI : SR _ _ _ _ a w); obtain rfl := hI.wp
    exact hQ a hI
theorem gl1 (n : Nat) {G : World → Prop} (hS : Stable G) (B : Nat) (X Y Z : Int) (sp : Option Addr) (len cap : Nat) (er : Int) (c0 : CE G B 0 ((ii X))) (c1 : CE G B 1 ((ii Y))) (c2_ : CE G B 2 ((ii Z))) (c3 : CE G B 3 (.slice sp len cap)) (hc : CR G 12 #[.agg #[(ii X), (ii Y), (ii Z), .slice sp len cap]] ((ii er))) (Q : Po) (a : Act) (w : World) (h0 : SG [(1, pt B 0)] 71 G a w)
    (hQ : ∀ a w, SG [(1, pt B 0), (3, ii er)] 71 G a w → Q .normal a w) : (regOf 1 C3).wpIn Fence.wide n Try.prog Q a w := by
  simp only [regOf, C3, Try.f3, Option.getD, Nat.reduceBEq, Bool.false_eq_true, if_true, if_false]
  refine region_sq (fun k_ a w => match k_ with | 0 => SG [(1, pt B 0)] 71 G a w | 1 => SG [(1, pt B 0), (9, .agg #[(ii X), (ii Y), (ii Z), .slice sp len cap])] 71 G a w | 2 => SG [(1, pt B 0), (10, ii er)] 71 G a w | _ => SG [(1, pt B 0), (3, ii er)] 71 G a w) h0 ⟨?_, ?_, ?_, trivial⟩ ?_
  · intro a w (hI : SG _ _ G a w); have e1 := hI.g 1 rfl; have cc0 := c0 w hI.wp; have cc1 := c1 w hI.wp; have cc2 := c2_ w hI.wp; have cc3 := c3 w hI.wp; go_simp; exact hI.q 9
  · intro a w (hI : SG _ _ G a w); have e9 := hI.g 9 rfl; go_simp
    refine ⟨trivial, fun h => (by cases h), (hc (n - 1) w hI.wp).mono ?_⟩
    rintro e w' ⟨rfl, hb2⟩
    exact hI.put (d := 10) (by decide) (by simp) (hS _ _ hI.wp hb2)
  · intro a w (hI : SG _ _ G a w); have e10 := hI.g 10 rfl; go_simp; exact hI.q 3
  · intro a w (hI : SG _ _ G a w)
    exact hQ a w hI
theorem gl2a (n : Nat) (W : World) (B : Nat) (er : Int) (he : er ≠ 0) (Q : Po) (a : Act) (h0 : SR [(1, pt B 0), (3, ii er)] 71 [] W a W)
    (hQ : ∀ a, SR [(1, pt B 0), (3, ii er), (18, .bool false)] 71 [] W a W → Q .normal a W) : (regOf 2 C3).wpIn Fence.wide n Try.prog Q a W := by
  simp only [regOf, C3, Try.f3, Option.getD, Nat.reduceBEq, Bool.false_eq_true, if_true, if_false]
  refine region_sq (fun k_ a w => match k_ with | 0 => SR [(1, pt B 0), (3, ii er)] 71 [] W a w | 1 => SR [(1, pt B 0), (3, ii er), (11, ii er)] 71 [] W a w | 2 => SR [(1, pt B 0), (3, ii er), (12, .bool false)] 71 [] W a w | 3 => SR [(1, pt B 0), (3, ii er), (13, .bool false)] 71 [] W a w | 4 => SR [(1, pt B 0), (3, ii er), (13, .bool false)] 71 [] W a w | 5 => SR [(1, pt B 0), (3, ii er), (13, .bool false)] 71 [] W a w | 6 => SR [(1, pt B 0), (3, ii er), (13, .bool false)] 71 [] W a w | 7 => SR [(1, pt B 0), (3, ii er), (13, .bool false)] 71 [] W a w | _ => SR [(1, pt B 0), (3, ii er), (18, .bool false)] 71 [] W a w) h0 ⟨?_, ?_, ?_, ?_, ?_, ?_, ?_, ?_, trivial⟩ ?_
  · intro a w (hI : SR _ _ _ _ a w); have e3 := hI.g 3 rfl; obtain rfl := hI.wp; go_simp; exact hI.s 11
  · intro a w (hI : SR _ _ _ _ a w); have e11 := hI.g 11 rfl; obtain rfl := hI.wp; have z : (er == 0) = false := (by simp [he]); go_simp; exact hI.s 12
  · intro a w (hI : SR _ _ _ _ a w); have e12 := hI.g 12 rfl; obtain rfl := hI.wp; go_simp; exact hI.s 13
  · intro a w (hI : SR _ _ _ _ a w); have e13 := hI.g 13 rfl; have f13 := slot_bool e13; obtain rfl := hI.wp; go_simp; exact hI.s 14
  · intro a w (hI : SR _ _ _ _ a w); have e13 := hI.g 13 rfl; have f13 := slot_bool e13; obtain rfl := hI.wp; go_simp; exact hI.s 15
  · intro a w (hI : SR _ _ _ _ a w); have e13 := hI.g 13 rfl; have f13 := slot_bool e13; obtain rfl := hI.wp; go_simp; exact hI.s 16
  · intro a w (hI : SR _ _ _ _ a w); have e13 := hI.g 13 rfl; have f13 := slot_bool e13; obtain rfl := hI.wp; go_simp; exact hI.s 17
  · intro a w (hI : SR _ _ _ _ a w); have e13 := hI.g 13 rfl; obtain rfl := hI.wp; go_simp; exact hI.s 18
  · intro a w (hI : SR _ _ _ _ a w); obtain rfl := hI.wp
    exact hQ a hI
theorem gl2b (n : Nat) (W : World) (B : Nat) (sp : Option Addr) (len cap : Nat) (c3 : W.cell? ⟨B, 3, none⟩ = some (.slice sp len cap)) (Q : Po) (a : Act) (h0 : SR [(1, pt B 0), (3, ii 0)] 71 [] W a W)
    (hQ : ∀ a, SR [(1, pt B 0), (3, ii 0), (18, .bool (decide ((6000 : Int) < len)))] 71 [] W a W → Q .normal a W) : (regOf 2 C3).wpIn Fence.wide n Try.prog Q a W := by
  simp only [regOf, C3, Try.f3, Option.getD, Nat.reduceBEq, Bool.false_eq_true, if_true, if_false]
  refine region_sq (fun k_ a w => match k_ with | 0 => SR [(1, pt B 0), (3, ii 0)] 71 [] W a w | 1 => SR [(1, pt B 0), (3, ii 0), (11, ii 0)] 71 [] W a w | 2 => SR [(1, pt B 0), (3, ii 0), (12, .bool true)] 71 [] W a w | 3 => SR [(1, pt B 0), (3, ii 0), (13, .bool true)] 71 [] W a w | 4 => SR [(1, pt B 0), (3, ii 0), (13, .bool true), (14, pt B 3)] 71 [] W a w | 5 => SR [(1, pt B 0), (3, ii 0), (13, .bool true), (15, .slice sp len cap)] 71 [] W a w | 6 => SR [(1, pt B 0), (3, ii 0), (13, .bool true), (16, ii len)] 71 [] W a w | 7 => SR [(1, pt B 0), (3, ii 0), (13, .bool true), (17, .bool (decide ((6000 : Int) < len)))] 71 [] W a w | _ => SR [(1, pt B 0), (3, ii 0), (18, .bool (decide ((6000 : Int) < len)))] 71 [] W a w) h0 ⟨?_, ?_, ?_, ?_, ?_, ?_, ?_, ?_, trivial⟩ ?_
  · intro a w (hI : SR _ _ _ _ a w); have e3 := hI.g 3 rfl; obtain rfl := hI.wp; go_simp; exact hI.s 11
  · intro a w (hI : SR _ _ _ _ a w); have e11 := hI.g 11 rfl; obtain rfl := hI.wp; go_simp; exact hI.s 12
  · intro a w (hI : SR _ _ _ _ a w); have e12 := hI.g 12 rfl; obtain rfl := hI.wp; go_simp; exact hI.s 13
  · intro a w (hI : SR _ _ _ _ a w); have e1 := hI.g 1 rfl; have e13 := hI.g 13 rfl; have f13 := slot_bool e13; obtain rfl := hI.wp; go_simp; exact hI.s 14
  · intro a w (hI : SR _ _ _ _ a w); have e14 := hI.g 14 rfl; have e13 := hI.g 13 rfl; have f13 := slot_bool e13; obtain rfl := hI.wp; go_simp; exact hI.s 15
  · intro a w (hI : SR _ _ _ _ a w); have e15 := hI.g 15 rfl; have e13 := hI.g 13 rfl; have f13 := slot_bool e13; obtain rfl := hI.wp; go_simp; exact hI.s 16
  · intro a w (hI : SR _ _ _ _ a w); have e16 := hI.g 16 rfl; have e13 := hI.g 13 rfl; have f13 := slot_bool e13; obtain rfl := hI.wp; go_simp; exact hI.s 17
  · intro a w (hI : SR _ _ _ _ a w); have e13 := hI.g 13 rfl; have e17 := hI.g 17 rfl; obtain rfl := hI.wp; go_simp; exact hI.s 18
  · intro a w (hI : SR _ _ _ _ a w); obtain rfl := hI.wp
    exact hQ a hI
theorem gl3 (n : Nat) {G : World → Prop} (hS : Stable G)  (hw : CR G 13 #[] (.bool true)) (Q : Po) (a : Act) (w : World) (h0 : SG [] 71 G a w)
    (hQ : ∀ a w, SG [(2, .bool true)] 71 G a w → Q .normal a w) : (regOf 3 C3).wpIn Fence.wide n Try.prog Q a w := by
  simp only [regOf, C3, Try.f3, Option.getD, Nat.reduceBEq, Bool.false_eq_true, if_true, if_false]
  refine region_sq (fun k_ a w => match k_ with | 0 => SG [] 71 G a w | 1 => SG [(19, .bool true)] 71 G a w | _ => SG [(2, .bool true)] 71 G a w) h0 ⟨?_, ?_, trivial⟩ ?_
  · intro a w (hI : SG _ _ G a w); go_simp
    refine ⟨trivial, fun h => (by cases h), (hw (n - 1) w hI.wp).mono ?_⟩
    rintro e w' ⟨rfl, hb2⟩
    exact hI.put (d := 19) (by decide) (by simp) (hS _ _ hI.wp hb2)
  · intro a w (hI : SG _ _ G a w); have e19 := hI.g 19 rfl; go_simp; exact hI.q 2
  · intro a w (hI : SG _ _ G a w)
    exact hQ a w hI
theorem gl4 (n : Nat) (W : World) (B : Nat) (er : Int)  (Q : Po) (a : Act) (h0 : SR [(1, pt B 0), (3, ii er)] 71 [] W a W)
    (hQ : ∀ a, SR [(1, pt B 0), (3, ii er), (4, .slice none 0 0)] 71 [] W a W → Q .normal a W) : (regOf 4 C3).wpIn Fence.wide n Try.prog Q a W := by
  simp only [regOf, C3, Try.f3, Option.getD, Nat.reduceBEq, Bool.false_eq_true, if_true, if_false]
  refine region_sq (fun k_ a w => match k_ with | 0 => SR [(1, pt B 0), (3, ii er)] 71 [] W a w | _ => SR [(1, pt B 0), (3, ii er), (4, .slice none 0 0)] 71 [] W a w) h0 ⟨?_, trivial⟩ ?_
  · intro a w (hI : SR _ _ _ _ a w); obtain rfl := hI.wp; go_simp; exact hI.s 4
  · intro a w (hI : SR _ _ _ _ a w); obtain rfl := hI.wp
    exact hQ a hI
theorem gl6 (n : Nat) {G : World → Prop} (B : Nat) (er : Int) (qp : Option Addr) (len qc : Nat) (X Y Z : Int) (lv : Nat → Value) (er2 : Int) (G1 : Nat → World → Prop) (c0 : CE G B 0 ((ii X))) (c1 : CE G B 1 ((ii Y))) (c2_ : CE G B 2 ((ii Z))) (hc : ∀ m w, G w → CallsIn Fence.wide m Try.prog 14 #[.agg #[(ii X), (ii Y), (ii Z), .slice qp len qc]] w fun e w' => ∃ (r : Nat), e = .returned (.tuple #[lv r, (ii er2)]) ∧ (G1 r) w') (Q : Po) (a : Act) (w : World) (h0 : SG [(1, pt B 0), (3, ii er), (4, .slice qp len qc)] 71 G a w)
    (hQ : ∀ (r : Nat) a w, SG [(1, pt B 0), (3, ii er), (4, .slice qp len qc), (5, lv r), (6, ii er2)] 71 (G1 r) a w → Q .normal a w) : (regOf 6 C3).wpIn Fence.wide n Try.prog Q a w := by
  simp only [regOf, C3, Try.f3, Option.getD, Nat.reduceBEq, Bool.false_eq_true, if_true, if_false]
  refine region_sq (fun k_ a w => match k_ with | 0 => SG [(1, pt B 0), (3, ii er), (4, .slice qp len qc)] 71 G a w | 1 => SG [(1, pt B 0), (3, ii er), (4, .slice qp len qc), (25, pt B 0)] 71 G a w | 2 => SG [(1, pt B 0), (3, ii er), (4, .slice qp len qc), (26, ii X)] 71 G a w | 3 => SG [(1, pt B 0), (3, ii er), (4, .slice qp len qc), (26, ii X), (27, pt B 1)] 71 G a w | 4 => SG [(1, pt B 0), (3, ii er), (4, .slice qp len qc), (26, ii X), (28, ii Y)] 71 G a w | 5 => SG [(1, pt B 0), (3, ii er), (4, .slice qp len qc), (26, ii X), (28, ii Y), (29, pt B 2)] 71 G a w | 6 => SG [(1, pt B 0), (3, ii er), (4, .slice qp len qc), (26, ii X), (28, ii Y), (30, ii Z)] 71 G a w | 7 => SG [(1, pt B 0), (3, ii er), (4, .slice qp len qc), (26, ii X), (28, ii Y), (30, ii Z), (31, .slice qp len qc)] 71 G a w | 8 => SG [(1, pt B 0), (3, ii er), (4, .slice qp len qc), (32, .agg #[(ii X), (ii Y), (ii Z), .slice qp len qc])] 71 G a w | 9 => ∃ (r : Nat), SG [(1, pt B 0), (3, ii er), (4, .slice qp len qc), (33, .tuple #[lv r, (ii er2)])] 71 (G1 r) a w | 10 => ∃ (r : Nat), SG [(1, pt B 0), (3, ii er), (4, .slice qp len qc), (24, .tuple #[lv r, (ii er2)])] 71 (G1 r) a w | 11 => ∃ (r : Nat), SG [(1, pt B 0), (3, ii er), (4, .slice qp len qc), (24, .tuple #[lv r, (ii er2)]), (34, lv r)] 71 (G1 r) a w | 12 => ∃ (r : Nat), SG [(1, pt B 0), (3, ii er), (4, .slice qp len qc), (34, lv r), (35, ii er2)] 71 (G1 r) a w | 13 => ∃ (r : Nat), SG [(1, pt B 0), (3, ii er), (4, .slice qp len qc), (35, ii er2), (5, lv r)] 71 (G1 r) a w | _ => ∃ (r : Nat), SG [(1, pt B 0), (3, ii er), (4, .slice qp len qc), (5, lv r), (6, ii er2)] 71 (G1 r) a w) h0 ⟨?_, ?_, ?_, ?_, ?_, ?_, ?_, ?_, ?_, ?_, ?_, ?_, ?_, ?_, trivial⟩ ?_
  · intro a w (hI : SG _ _ G a w); have e1 := hI.g 1 rfl; go_simp; exact hI.q 25
  · intro a w (hI : SG _ _ G a w); have e25 := hI.g 25 rfl; have cc0 := c0 w hI.wp; go_simp; exact hI.q 26
  · intro a w (hI : SG _ _ G a w); have e1 := hI.g 1 rfl; go_simp; exact hI.q 27
  · intro a w (hI : SG _ _ G a w); have e27 := hI.g 27 rfl; have cc0 := c1 w hI.wp; go_simp; exact hI.q 28
  · intro a w (hI : SG _ _ G a w); have e1 := hI.g 1 rfl; go_simp; exact hI.q 29
  · intro a w (hI : SG _ _ G a w); have e29 := hI.g 29 rfl; have cc0 := c2_ w hI.wp; go_simp; exact hI.q 30
  · intro a w (hI : SG _ _ G a w); have e4 := hI.g 4 rfl; go_simp; exact hI.q 31
  · intro a w (hI : SG _ _ G a w); have e26 := hI.g 26 rfl; have e28 := hI.g 28 rfl; have e30 := hI.g 30 rfl; have e31 := hI.g 31 rfl; go_simp; exact hI.q 32
  · intro a w (hI : SG _ _ G a w); have e32 := hI.g 32 rfl; go_simp
    refine ⟨trivial, fun h => (by cases h), (hc (n - 1) w hI.wp).mono ?_⟩
    rintro e w' ⟨r, rfl, hg2⟩
    exact ⟨r, hI.put (d := 33) (by decide) (by simp) hg2⟩
  · rintro a w ⟨r, hI⟩
    have e33 := hI.g 33 rfl; go_simp
    exact ⟨r, hI.q 24⟩
  · rintro a w ⟨r, hI⟩
    have e24 := hI.g 24 rfl; go_simp
    exact ⟨r, hI.q 34⟩
  · rintro a w ⟨r, hI⟩
    have e24 := hI.g 24 rfl; go_simp
    exact ⟨r, hI.q 35⟩
  · rintro a w ⟨r, hI⟩
    have e34 := hI.g 34 rfl; go_simp
    exact ⟨r, hI.q 5⟩
  · rintro a w ⟨r, hI⟩
    have e35 := hI.g 35 rfl; go_simp
    exact ⟨r, hI.q 6⟩
  · rintro a w ⟨r, hI⟩
    exact hQ r a w hI
theorem gl7 (n : Nat) (W : World) (B : Nat) (er : Int) (qp : Option Addr) (len qc : Nat) (lv : Value) (Q : Po) (a : Act) (h0 : SR [(1, pt B 0), (3, ii er), (4, .slice qp len qc), (5, lv), (6, ii er)] 71 [] W a W)
    (hQ : ∀ a, SR [(1, pt B 0), (3, ii er), (4, .slice qp len qc), (5, lv), (38, .bool false)] 71 [] W a W → Q .normal a W) : (regOf 7 C3).wpIn Fence.wide n Try.prog Q a W := by
  simp only [regOf, C3, Try.f3, Option.getD, Nat.reduceBEq, Bool.false_eq_true, if_true, if_false]
  refine region_sq (fun k_ a w => match k_ with | 0 => SR [(1, pt B 0), (3, ii er), (4, .slice qp len qc), (5, lv), (6, ii er)] 71 [] W a w | 1 => SR [(1, pt B 0), (3, ii er), (4, .slice qp len qc), (5, lv), (6, ii er), (36, ii er)] 71 [] W a w | 2 => SR [(1, pt B 0), (3, ii er), (4, .slice qp len qc), (5, lv), (36, ii er), (37, ii er)] 71 [] W a w | _ => SR [(1, pt B 0), (3, ii er), (4, .slice qp len qc), (5, lv), (38, .bool false)] 71 [] W a w) h0 ⟨?_, ?_, ?_, trivial⟩ ?_
  · intro a w (hI : SR _ _ _ _ a w); have e3 := hI.g 3 rfl; obtain rfl := hI.wp; go_simp; exact hI.s 36
  · intro a w (hI : SR _ _ _ _ a w); have e6 := hI.g 6 rfl; obtain rfl := hI.wp; go_simp; exact hI.s 37
  · intro a w (hI : SR _ _ _ _ a w); have e36 := hI.g 36 rfl; have e37 := hI.g 37 rfl; obtain rfl := hI.wp; go_simp; exact hI.s 38
  · intro a w (hI : SR _ _ _ _ a w); obtain rfl := hI.wp
    exact hQ a hI
theorem gl9 (n : Nat) (W : World) (B : Nat) (er : Int) (qp : Option Addr) (len qc : Nat) (lv : Value) (Q : Po) (a : Act) (h0 : SR [(1, pt B 0), (3, ii er), (4, .slice qp len qc), (5, lv)] 71 [] W a W)
    (hQ : ∀ a, SR [(1, pt B 0), (3, ii er), (4, .slice qp len qc), (5, lv), (7, ii 0)] 71 [] W a W → Q .normal a W) : (regOf 9 C3).wpIn Fence.wide n Try.prog Q a W := by
  simp only [regOf, C3, Try.f3, Option.getD, Nat.reduceBEq, Bool.false_eq_true, if_true, if_false]
  refine region_sq (fun k_ a w => match k_ with | 0 => SR [(1, pt B 0), (3, ii er), (4, .slice qp len qc), (5, lv)] 71 [] W a w | _ => SR [(1, pt B 0), (3, ii er), (4, .slice qp len qc), (5, lv), (7, ii 0)] 71 [] W a w) h0 ⟨?_, trivial⟩ ?_
  · intro a w (hI : SR _ _ _ _ a w); obtain rfl := hI.wp; go_simp; exact hI.s 7
  · intro a w (hI : SR _ _ _ _ a w); obtain rfl := hI.wp
    exact hQ a hI
theorem gl10 (n : Nat) (W : World) (B : Nat) (er : Int) (qp : Option Addr) (len qc : Nat) (lv : Value) (i : Nat)  (Q : Po) (a : Act) (h0 : SR [(1, pt B 0), (3, ii er), (4, .slice qp len qc), (5, lv), (7, ii i)] 71 [] W a W)
    (hQ : ∀ a, SR [(1, pt B 0), (3, ii er), (4, .slice qp len qc), (5, lv), (7, ii i), (42, .bool (decide (i < len)))] 71 [] W a W → Q .normal a W) : (regOf 10 C3).wpIn Fence.wide n Try.prog Q a W := by
  simp only [regOf, C3, Try.f3, Option.getD, Nat.reduceBEq, Bool.false_eq_true, if_true, if_false]
  refine region_sq (fun k_ a w => match k_ with | 0 => SR [(1, pt B 0), (3, ii er), (4, .slice qp len qc), (5, lv), (7, ii i)] 71 [] W a w | 1 => SR [(1, pt B 0), (3, ii er), (4, .slice qp len qc), (5, lv), (7, ii i), (39, ii i)] 71 [] W a w | 2 => SR [(1, pt B 0), (3, ii er), (4, .slice qp len qc), (5, lv), (7, ii i), (39, ii i), (40, .slice qp len qc)] 71 [] W a w | 3 => SR [(1, pt B 0), (3, ii er), (4, .slice qp len qc), (5, lv), (7, ii i), (39, ii i), (41, ii len)] 71 [] W a w | _ => SR [(1, pt B 0), (3, ii er), (4, .slice qp len qc), (5, lv), (7, ii i), (42, .bool (decide (i < len)))] 71 [] W a w) h0 ⟨?_, ?_, ?_, ?_, trivial⟩ ?_
  · intro a w (hI : SR _ _ _ _ a w); have e7 := hI.g 7 rfl; obtain rfl := hI.wp; go_simp; exact hI.s 39
  · intro a w (hI : SR _ _ _ _ a w); have e4 := hI.g 4 rfl; obtain rfl := hI.wp; go_simp; exact hI.s 40
  · intro a w (hI : SR _ _ _ _ a w); have e40 := hI.g 40 rfl; obtain rfl := hI.wp; go_simp; exact hI.s 41
  · intro a w (hI : SR _ _ _ _ a w); have e39 := hI.g 39 rfl; have e41 := hI.g 41 rfl; obtain rfl := hI.wp; go_simp; exact hI.s 42
  · intro a w (hI : SR _ _ _ _ a w); obtain rfl := hI.wp
    exact hQ a hI
theorem gl11 (n : Nat) (W : World) (B : Nat) (er : Int) (qp : Option Addr) (len qc : Nat) (lv : Value) (i : Nat) (hi : i < 90000000000000000) (Q : Po) (a : Act) (h0 : SR [(1, pt B 0), (3, ii er), (4, .slice qp len qc), (5, lv), (7, ii i)] 71 [] W a W)
    (hQ : ∀ a, SR [(1, pt B 0), (3, ii er), (4, .slice qp len qc), (5, lv), (7, (ii ((i : Int) + 1)))] 71 [] W a W → Q .normal a W) : (regOf 11 C3).wpIn Fence.wide n Try.prog Q a W := by
  simp only [regOf, C3, Try.f3, Option.getD, Nat.reduceBEq, Bool.false_eq_true, if_true, if_false]
  refine region_sq (fun k_ a w => match k_ with | 0 => SR [(1, pt B 0), (3, ii er), (4, .slice qp len qc), (5, lv), (7, ii i)] 71 [] W a w | 1 => SR [(1, pt B 0), (3, ii er), (4, .slice qp len qc), (5, lv), (43, ii i)] 71 [] W a w | 2 => SR [(1, pt B 0), (3, ii er), (4, .slice qp len qc), (5, lv), (44, (ii ((i : Int) + 1)))] 71 [] W a w | _ => SR [(1, pt B 0), (3, ii er), (4, .slice qp len qc), (5, lv), (7, (ii ((i : Int) + 1)))] 71 [] W a w) h0 ⟨?_, ?_, ?_, trivial⟩ ?_
  · intro a w (hI : SR _ _ _ _ a w); have e7 := hI.g 7 rfl; obtain rfl := hI.wp; go_simp; exact hI.s 43
  · intro a w (hI : SR _ _ _ _ a w); have e43 := hI.g 43 rfl; obtain rfl := hI.wp
    have hw1 : IntKind.i64.wrap ((i : Int) + 1) = (i : Int) + 1 := IntWalk.i64_in _ (by omega)
    go_simp; exact hI.s 44
  · intro a w (hI : SR _ _ _ _ a w); have e44 := hI.g 44 rfl; obtain rfl := hI.wp; go_simp; exact hI.s 7
  · intro a w (hI : SR _ _ _ _ a w); obtain rfl := hI.wp
    exact hQ a hI
theorem gl12 (n : Nat) {G : World → Prop} (hS : Stable G) (B : Nat) (er : Int) (g2 len qc : Nat) (lv : Value) (i g off cap k v : Nat) (hi : i < len) (cb0 : CE G g2 (i * 2) (.int .u8 k)) (cb1 : CE G g2 (i * 2 + 1) (.int .u8 v)) (c3 : CE G B 3 (.slice (some ⟨g, off, none⟩) len cap)) (ca0 : CE G g (off + i * 2) (.int .u8 k)) (ca1 : CE G g (off + i * 2 + 1) (.int .u8 v)) (Q : Po) (a : Act) (w : World) (h0 : SG [(1, pt B 0), (3, ii er), (4, sl g2 len qc), (5, lv), (7, ii i)] 71 G a w)
    (hQ : ∀ a w, SG [(1, pt B 0), (3, ii er), (4, sl g2 len qc), (5, lv), (7, ii i), (54, .bool false)] 71 G a w → Q .normal a w) : (regOf 12 C3).wpIn Fence.wide n Try.prog Q a w := by
  have hmix : Try.prog.follows .mixedOrders = true := by kernel_rfl
  simp only [regOf, C3, Try.f3, Option.getD, Nat.reduceBEq, Bool.false_eq_true, if_true, if_false]
  refine region_inv (RI [(1, pt B 0), (3, ii er), (4, sl g2 len qc), (5, lv), (7, ii i)]
    [(0, 45, sl g2 len qc), (1, 46, ii i), (2, 47, pt g2 (i * 2)), (3, 48, .agg #[.int .u8 k, .int .u8 v]), (4, 49, pt B 3), (5, 50, .slice (some ⟨g, off, none⟩) len cap), (6, 51, ii i), (7, 52, pt g (off + i * 2)), (8, 53, .agg #[.int .u8 k, .int .u8 v]), (9, 54, .bool false)] 71 [] (fun _ w => G w)) hmix (by kernel_rfl) ⟨h0.size, h0.defers, h0.kn, by simp, hS _ _ h0.wp (Below.refl _ _).drew⟩ ⟨?_, ?_, ?_, ?_, ?_, ?_, ?_, ?_, ?_, ?_, trivial⟩ ?_
  · intro Xs a w hX hdep hC hI; have e4 := hI.gi 4 rfl; go_simp; exact hI.p 0 45 hI.wp
  · intro Xs a w hX hdep hC hI; have e7 := hI.gi 7 rfl; go_simp; exact hI.p 1 46 hI.wp
  · intro Xs a w hX hdep hC hI; have e45 := hI.gk 0 rfl (hdep ⟨0, .data⟩ (by simp) rfl); have e46 := hI.gk 1 rfl (hdep ⟨1, .data⟩ (by simp) rfl)
    have q1_2 : (0 : Int) ≤ i := by omega
    have q2_2 : (i : Int) < len := by omega
    go_simp; exact hI.p 2 47 hI.wp
  · intro Xs a w hX hdep hC hI; have e47 := hI.gk 2 rfl (hdep ⟨2, .data⟩ (by simp) rfl); have cc0 := cb0 w hI.wp; have cc1 := cb1 w hI.wp; go_simp; exact hI.p 3 48 hI.wp
  · intro Xs a w hX hdep hC hI; have e1 := hI.gi 1 rfl; go_simp; exact hI.p 4 49 hI.wp
  · intro Xs a w hX hdep hC hI; have e49 := hI.gk 4 rfl (hdep ⟨4, .data⟩ (by simp) rfl); have cc0 := c3 w hI.wp; go_simp; exact hI.p 5 50 hI.wp
  · intro Xs a w hX hdep hC hI; have e7 := hI.gi 7 rfl; go_simp; exact hI.p 6 51 hI.wp
  · intro Xs a w hX hdep hC hI; have e50 := hI.gk 5 rfl (hdep ⟨5, .data⟩ (by simp) rfl); have e51 := hI.gk 6 rfl (hdep ⟨6, .data⟩ (by simp) rfl)
    have q1_7 : (0 : Int) ≤ i := by omega
    have q2_7 : (i : Int) < len := by omega
    go_simp; exact hI.p 7 52 hI.wp
  · intro Xs a w hX hdep hC hI; have e52 := hI.gk 7 rfl (hdep ⟨7, .data⟩ (by simp) rfl); have cc0 := ca0 w hI.wp; have cc1 := ca1 w hI.wp; go_simp; exact hI.p 8 53 hI.wp
  · intro Xs a w hX hdep hC hI; have e48 := hI.gk 3 rfl (hdep ⟨3, .data⟩ (by simp) rfl); have e53 := hI.gk 8 rfl (hdep ⟨8, .data⟩ (by simp) rfl); go_simp; exact hI.p 9 54 hI.wp
  · intro Xs a w hX hI
    refine hQ a w ⟨hI.size, hI.defers, ?_, hI.wp⟩
    simp only [List.mem_cons, List.not_mem_nil, or_false, forall_eq_or_imp, forall_eq]
    exact ⟨hI.gi 1 rfl, hI.gi 3 rfl, hI.gi 4 rfl, hI.gi 5 rfl, hI.gi 7 rfl, hI.gk 9 rfl (hX 9 (by simp))⟩
theorem gl14 (n : Nat) (W : World) (B : Nat) (er : Int) (lv : Value) (Q : Po) (a : Act) (h0 : SR [(1, pt B 0), (3, ii er), (5, lv)] 71 [] W a W)
    (hQ : ∀ a, SR [(1, pt B 0), (5, lv), (56, .bool (er != 0))] 71 [] W a W → Q .normal a W) : (regOf 14 C3).wpIn Fence.wide n Try.prog Q a W := by
  simp only [regOf, C3, Try.f3, Option.getD, Nat.reduceBEq, Bool.false_eq_true, if_true, if_false]
  refine region_sq (fun k_ a w => match k_ with | 0 => SR [(1, pt B 0), (3, ii er), (5, lv)] 71 [] W a w | 1 => SR [(1, pt B 0), (5, lv), (55, ii er)] 71 [] W a w | _ => SR [(1, pt B 0), (5, lv), (56, .bool (er != 0))] 71 [] W a w) h0 ⟨?_, ?_, trivial⟩ ?_
  · intro a w (hI : SR _ _ _ _ a w); have e3 := hI.g 3 rfl; obtain rfl := hI.wp; go_simp; exact hI.s 55
  · intro a w (hI : SR _ _ _ _ a w); have e55 := hI.g 55 rfl; obtain rfl := hI.wp; go_simp; exact hI.s 56
  · intro a w (hI : SR _ _ _ _ a w); obtain rfl := hI.wp
    exact hQ a hI
theorem gl15 (n : Nat) {G : World → Prop} (hS : Stable G)  (hw : CR G 13 #[] (.bool true)) (Q : Po) (a : Act) (w : World) (h0 : SG [(5, .slice none 0 0)] 71 G a w)
    (hQ : ∀ a w, SG [(2, .bool true)] 71 G a w → Q .normal a w) : (regOf 15 C3).wpIn Fence.wide n Try.prog Q a w := by
  simp only [regOf, C3, Try.f3, Option.getD, Nat.reduceBEq, Bool.false_eq_true, if_true, if_false]
  refine region_sq (fun k_ a w => match k_ with | 0 => SG [(5, .slice none 0 0)] 71 G a w | 1 => SG [(57, .slice none 0 0)] 71 G a w | 2 => SG [(58, ii 0)] 71 G a w | 3 => SG [(59, .bool true)] 71 G a w | 4 => SG [(60, .bool true)] 71 G a w | 5 => SG [(60, .bool true), (61, .bool true)] 71 G a w | 6 => SG [(62, .bool true)] 71 G a w | _ => SG [(2, .bool true)] 71 G a w) h0 ⟨?_, ?_, ?_, ?_, ?_, ?_, ?_, trivial⟩ ?_
  · intro a w (hI : SG _ _ G a w); have e5 := hI.g 5 rfl; go_simp; exact hI.q 57
  · intro a w (hI : SG _ _ G a w); have e57 := hI.g 57 rfl; go_simp; exact hI.q 58
  · intro a w (hI : SG _ _ G a w); have e58 := hI.g 58 rfl; go_simp; exact hI.q 59
  · intro a w (hI : SG _ _ G a w); have e59 := hI.g 59 rfl; go_simp; exact hI.q 60
  · intro a w (hI : SG _ _ G a w); have e60 := hI.g 60 rfl; have f60 := slot_bool e60; go_simp
    refine ⟨trivial, fun h => (by cases h), (hw (n - 1) w hI.wp).mono ?_⟩
    rintro e w' ⟨rfl, hb2⟩
    exact hI.put (d := 61) (by decide) (by simp) (hS _ _ hI.wp hb2)
  · intro a w (hI : SG _ _ G a w); have e60 := hI.g 60 rfl; have e61 := hI.g 61 rfl; go_simp; exact hI.q 62
  · intro a w (hI : SG _ _ G a w); have e62 := hI.g 62 rfl; go_simp; exact hI.q 2
  · intro a w (hI : SG _ _ G a w)
    exact hQ a w hI
theorem gl16 (n : Nat) {G : World → Prop} (B : Nat) (lv : Value) (X Y Z : Int) (sp : Option Addr) (N cap : Nat) (G1 : Nat → Nat → World → Prop) (c0 : CE G B 0 ((ii X))) (c1 : CE G B 1 ((ii Y))) (c2_ : CE G B 2 ((ii Z))) (c3 : CE G B 3 (.slice sp N cap)) (hc : ∀ m w, G w → CallsIn Fence.wide m Try.prog 15 #[.agg #[(ii X), (ii Y), (ii Z), .slice sp N cap]] w fun e w' => ∃ (g5 : Nat) (c5 : Nat), e = .returned ((sl g5 N c5)) ∧ (G1 g5 c5) w') (Q : Po) (a : Act) (w : World) (h0 : SG [(1, pt B 0), (5, lv)] 71 G a w)
    (hQ : ∀ (g5 : Nat) (c5 : Nat) a w, SG [(5, lv), (8, sl g5 N c5)] 71 (G1 g5 c5) a w → Q .normal a w) : (regOf 16 C3).wpIn Fence.wide n Try.prog Q a w := by
  simp only [regOf, C3, Try.f3, Option.getD, Nat.reduceBEq, Bool.false_eq_true, if_true, if_false]
  refine region_sq (fun k_ a w => match k_ with | 0 => SG [(1, pt B 0), (5, lv)] 71 G a w | 1 => SG [(5, lv), (63, .agg #[(ii X), (ii Y), (ii Z), .slice sp N cap])] 71 G a w | 2 => ∃ (g5 : Nat) (c5 : Nat), SG [(5, lv), (64, sl g5 N c5)] 71 (G1 g5 c5) a w | _ => ∃ (g5 : Nat) (c5 : Nat), SG [(5, lv), (8, sl g5 N c5)] 71 (G1 g5 c5) a w) h0 ⟨?_, ?_, ?_, trivial⟩ ?_
  · intro a w (hI : SG _ _ G a w); have e1 := hI.g 1 rfl; have cc0 := c0 w hI.wp; have cc1 := c1 w hI.wp; have cc2 := c2_ w hI.wp; have cc3 := c3 w hI.wp; go_simp; exact hI.q 63
  · intro a w (hI : SG _ _ G a w); have e63 := hI.g 63 rfl; go_simp
    refine ⟨trivial, fun h => (by cases h), (hc (n - 1) w hI.wp).mono ?_⟩
    rintro e w' ⟨g5, c5, rfl, hg2⟩
    exact ⟨g5, c5, hI.put (d := 64) (by decide) (by simp) hg2⟩
  · rintro a w ⟨g5, c5, hI⟩
    have e64 := hI.g 64 rfl; go_simp
    exact ⟨g5, c5, hI.q 8⟩
  · rintro a w ⟨g5, c5, hI⟩
    exact hQ g5 c5 a w hI
theorem gl17 (n : Nat) {G : World → Prop} (hS : Stable G) (lv wv : Value) (hs : CR G 16 #[lv, wv] (.bool true)) (hw : CR G 13 #[] (.bool true)) (Q : Po) (a : Act) (w : World) (h0 : SG [(5, lv), (8, wv)] 71 G a w)
    (hQ : ∀ a w, SG [(2, .bool true)] 71 G a w → Q .normal a w) : (regOf 17 C3).wpIn Fence.wide n Try.prog Q a w := by
  simp only [regOf, C3, Try.f3, Option.getD, Nat.reduceBEq, Bool.false_eq_true, if_true, if_false]
  refine region_sq (fun k_ a w => match k_ with | 0 => SG [(5, lv), (8, wv)] 71 G a w | 1 => SG [(8, wv), (65, lv)] 71 G a w | 2 => SG [(65, lv), (66, wv)] 71 G a w | 3 => SG [(67, .bool true)] 71 G a w | 4 => SG [(68, .bool true)] 71 G a w | 5 => SG [(68, .bool true), (69, .bool true)] 71 G a w | 6 => SG [(70, .bool true)] 71 G a w | _ => SG [(2, .bool true)] 71 G a w) h0 ⟨?_, ?_, ?_, ?_, ?_, ?_, ?_, trivial⟩ ?_
  · intro a w (hI : SG _ _ G a w); have e5 := hI.g 5 rfl; go_simp; exact hI.q 65
  · intro a w (hI : SG _ _ G a w); have e8 := hI.g 8 rfl; go_simp; exact hI.q 66
  · intro a w (hI : SG _ _ G a w); have e65 := hI.g 65 rfl; have e66 := hI.g 66 rfl; go_simp
    refine ⟨trivial, fun h => (by cases h), (hs (n - 1) w hI.wp).mono ?_⟩
    rintro e w' ⟨rfl, hb2⟩
    exact hI.put (d := 67) (by decide) (by simp) (hS _ _ hI.wp hb2)
  · intro a w (hI : SG _ _ G a w); have e67 := hI.g 67 rfl; go_simp; exact hI.q 68
  · intro a w (hI : SG _ _ G a w); have e68 := hI.g 68 rfl; have f68 := slot_bool e68; go_simp
    refine ⟨trivial, fun h => (by cases h), (hw (n - 1) w hI.wp).mono ?_⟩
    rintro e w' ⟨rfl, hb2⟩
    exact hI.put (d := 69) (by decide) (by simp) (hS _ _ hI.wp hb2)
  · intro a w (hI : SG _ _ G a w); have e68 := hI.g 68 rfl; have e69 := hI.g 69 rfl; go_simp; exact hI.q 70
  · intro a w (hI : SG _ _ G a w); have e70 := hI.g 70 rfl; go_simp; exact hI.q 2
  · intro a w (hI : SG _ _ G a w)
    exact hQ a w hI
end Go.Proofs.Ytmgiabehooghcaa
