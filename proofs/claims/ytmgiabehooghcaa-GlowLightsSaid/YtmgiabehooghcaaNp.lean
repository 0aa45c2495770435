/- Glow: the walk of a law. -/
import Derived.RangeFuncNested
import Derived.RangeFuncBound
import Derived.RangeFuncCalls
import Derived.RangeFuncLeaves
import Derived.Shelf.Abstract
import Derived.Shelf.RegionOpen
import Derived.WalkKit
import Derived.OwnWalkIn
import Derived.TacticsInMore
import Derived.LoopNIn
import Derived.LoopIn
import Derived.Lib.Hide
import Derived.IntWalk
import Derived.Maps.AppendAt
import Derived.Test.YtmgiabehooghcaaKc
import Derived.Test.YtmgiabehooghcaaGin
import Derived.Test.YtmgiabehooghcaaJ5
set_option linter.unusedVariables false
set_option linter.unusedSimpArgs false
set_option maxRecDepth 100000
set_option maxHeartbeats 4000000
namespace Go.Proofs.Ytmgiabehooghcaa
open Go.RowKit Go.Shelf
attribute [local go_sem] Oper.semAt_some

abbrev Po := Exit → Act → World → Prop
abbrev CE (G : World → Prop) (b j : Nat) (v : Value) : Prop := ∀ w, G w → w.cell? ⟨b, j, none⟩ = some v
abbrev CR (G : World → Prop) (f : Nat) (args : Array Value) (v : Value) : Prop := ∀ m w, G w → CallsIn Fence.wide m Try.prog f args w fun e w' => e = .returned v ∧ Below w.heap.size w w'
abbrev WQ (c : Code) (n : Nat) (Q : Po) (a : Act) (w : World) : Prop := c.wpIn Fence.wide n Try.prog Q a w
abbrev pt (b j : Nat) : Value := .pointer (some ⟨b, j, none⟩)
abbrev sl (b n c : Nat) : Value := .slice (some ⟨b, 0, none⟩) n c
abbrev ii (x : Int) : Value := .int .i64 x
theorem info32 : (Try.prog.info? 32).map (fun i => (i.zero, i.size, i.bytes)) = some (some (.agg #[.int .u8 0, .int .u8 0]), 2, 2) := by kernel_rfl
theorem under22 : Try.prog.underlying 22 = some (.slice 32) := by kernel_rfl
theorem under40b : Try.prog.underlying 40 = some (.slice 3) := by kernel_rfl
theorem info3b : (Try.prog.info? 3).map (fun i => (i.zero, i.size, i.bytes)) = some (some (ii 0), 1, 8) := by kernel_rfl
noncomputable def C23 : Code := Try.f23.body.getD .skip
theorem sd0 (n : Nat) (W : World) (x : Int) (Q : Po) (a : Act) (h0 : SR [(0, ii x)] 9 [] W a W)
    (hQ : ∀ a, SR [(0, ii x)] 9 [] W a W → Q .normal a W) : (regOf 0 C23).wpIn Fence.wide n Try.prog Q a W := by
  simp only [regOf, C23, Try.f23, Option.getD, Nat.reduceBEq, Bool.false_eq_true, if_true, if_false]
  refine region_sq (fun k_ a w => match k_ with | 0 => SR [(0, ii x)] 9 [] W a w | _ => SR [(0, ii x)] 9 [] W a w) h0 ⟨?_, trivial⟩ ?_
  · intro a w (hI : SR _ _ _ _ a w); obtain rfl := hI.wp; go_simp; exact hI.s 2
  · intro a w (hI : SR _ _ _ _ a w); obtain rfl := hI.wp
    exact hQ a hI
theorem sd1t (n : Nat) (W : World) (x : Int) (h1 : 1 ≤ x) (h2 : x ≤ 256) (Q : Po) (a : Act) (h0 : SR [(0, ii x)] 9 [] W a W)
    (hQ : ∀ a, SR [(2, .bool true)] 9 [] W a W → Q .normal a W) : (regOf 1 C23).wpIn Fence.wide n Try.prog Q a W := by
  simp only [regOf, C23, Try.f23, Option.getD, Nat.reduceBEq, Bool.false_eq_true, if_true, if_false]
  refine region_sq (fun k_ a w => match k_ with | 0 => SR [(0, ii x)] 9 [] W a w | 1 => SR [(0, ii x), (3, ii x)] 9 [] W a w | 2 => SR [(0, ii x), (4, .bool true)] 9 [] W a w | 3 => SR [(0, ii x), (5, .bool true)] 9 [] W a w | 4 => SR [(5, .bool true), (6, ii x)] 9 [] W a w | 5 => SR [(5, .bool true), (7, .bool true)] 9 [] W a w | 6 => SR [(8, .bool true)] 9 [] W a w | _ => SR [(2, .bool true)] 9 [] W a w) h0 ⟨?_, ?_, ?_, ?_, ?_, ?_, ?_, trivial⟩ ?_
  · intro a w (hI : SR _ _ _ _ a w); have e0 := hI.g 0 rfl; obtain rfl := hI.wp; go_simp; exact hI.s 3
  · intro a w (hI : SR _ _ _ _ a w); have e3 := hI.g 3 rfl; obtain rfl := hI.wp; have z1 : (1 : Int) ≤ x := (by omega); go_simp; exact hI.s 4
  · intro a w (hI : SR _ _ _ _ a w); have e4 := hI.g 4 rfl; obtain rfl := hI.wp; go_simp; exact hI.s 5
  · intro a w (hI : SR _ _ _ _ a w); have e0 := hI.g 0 rfl; have e5 := hI.g 5 rfl; have f5 := slot_bool e5; obtain rfl := hI.wp; go_simp; exact hI.s 6
  · intro a w (hI : SR _ _ _ _ a w); have e6 := hI.g 6 rfl; have e5 := hI.g 5 rfl; have f5 := slot_bool e5; obtain rfl := hI.wp; have z2 : (x ≤ (256 : Int)) := (by omega); go_simp; exact hI.s 7
  · intro a w (hI : SR _ _ _ _ a w); have e5 := hI.g 5 rfl; have e7 := hI.g 7 rfl; obtain rfl := hI.wp; go_simp; exact hI.s 8
  · intro a w (hI : SR _ _ _ _ a w); have e8 := hI.g 8 rfl; obtain rfl := hI.wp; go_simp; exact hI.s 2
  · intro a w (hI : SR _ _ _ _ a w); obtain rfl := hI.wp
    exact hQ a hI
theorem sd1f (n : Nat) (W : World) (x : Int) (h1 : ¬ 1 ≤ x) (Q : Po) (a : Act) (h0 : SR [(0, ii x)] 9 [] W a W)
    (hQ : ∀ a, SR [(2, .bool false)] 9 [] W a W → Q .normal a W) : (regOf 1 C23).wpIn Fence.wide n Try.prog Q a W := by
  simp only [regOf, C23, Try.f23, Option.getD, Nat.reduceBEq, Bool.false_eq_true, if_true, if_false]
  refine region_sq (fun k_ a w => match k_ with | 0 => SR [(0, ii x)] 9 [] W a w | 1 => SR [(3, ii x)] 9 [] W a w | 2 => SR [(4, .bool false)] 9 [] W a w | 3 => SR [(5, .bool false)] 9 [] W a w | 4 => SR [(5, .bool false)] 9 [] W a w | 5 => SR [(5, .bool false)] 9 [] W a w | 6 => SR [(8, .bool false)] 9 [] W a w | _ => SR [(2, .bool false)] 9 [] W a w) h0 ⟨?_, ?_, ?_, ?_, ?_, ?_, ?_, trivial⟩ ?_
  · intro a w (hI : SR _ _ _ _ a w); have e0 := hI.g 0 rfl; obtain rfl := hI.wp; go_simp; exact hI.s 3
  · intro a w (hI : SR _ _ _ _ a w); have e3 := hI.g 3 rfl; obtain rfl := hI.wp; have z1 : ¬ (1 : Int) ≤ x := (by omega); go_simp; exact hI.s 4
  · intro a w (hI : SR _ _ _ _ a w); have e4 := hI.g 4 rfl; obtain rfl := hI.wp; go_simp; exact hI.s 5
  · intro a w (hI : SR _ _ _ _ a w); have e5 := hI.g 5 rfl; have f5 := slot_bool e5; obtain rfl := hI.wp; go_simp; exact hI.s 6
  · intro a w (hI : SR _ _ _ _ a w); have e5 := hI.g 5 rfl; have f5 := slot_bool e5; obtain rfl := hI.wp; go_simp; exact hI.s 7
  · intro a w (hI : SR _ _ _ _ a w); have e5 := hI.g 5 rfl; obtain rfl := hI.wp; go_simp; exact hI.s 8
  · intro a w (hI : SR _ _ _ _ a w); have e8 := hI.g 8 rfl; obtain rfl := hI.wp; go_simp; exact hI.s 2
  · intro a w (hI : SR _ _ _ _ a w); obtain rfl := hI.wp
    exact hQ a hI
theorem sd1g (n : Nat) (W : World) (x : Int) (h1 : 1 ≤ x) (h2 : ¬ x ≤ 256) (Q : Po) (a : Act) (h0 : SR [(0, ii x)] 9 [] W a W)
    (hQ : ∀ a, SR [(2, .bool false)] 9 [] W a W → Q .normal a W) : (regOf 1 C23).wpIn Fence.wide n Try.prog Q a W := by
  simp only [regOf, C23, Try.f23, Option.getD, Nat.reduceBEq, Bool.false_eq_true, if_true, if_false]
  refine region_sq (fun k_ a w => match k_ with | 0 => SR [(0, ii x)] 9 [] W a w | 1 => SR [(0, ii x), (3, ii x)] 9 [] W a w | 2 => SR [(0, ii x), (4, .bool true)] 9 [] W a w | 3 => SR [(0, ii x), (5, .bool true)] 9 [] W a w | 4 => SR [(5, .bool true), (6, ii x)] 9 [] W a w | 5 => SR [(5, .bool true), (7, .bool false)] 9 [] W a w | 6 => SR [(8, .bool false)] 9 [] W a w | _ => SR [(2, .bool false)] 9 [] W a w) h0 ⟨?_, ?_, ?_, ?_, ?_, ?_, ?_, trivial⟩ ?_
  · intro a w (hI : SR _ _ _ _ a w); have e0 := hI.g 0 rfl; obtain rfl := hI.wp; go_simp; exact hI.s 3
  · intro a w (hI : SR _ _ _ _ a w); have e3 := hI.g 3 rfl; obtain rfl := hI.wp; have z1 : (1 : Int) ≤ x := (by omega); go_simp; exact hI.s 4
  · intro a w (hI : SR _ _ _ _ a w); have e4 := hI.g 4 rfl; obtain rfl := hI.wp; go_simp; exact hI.s 5
  · intro a w (hI : SR _ _ _ _ a w); have e0 := hI.g 0 rfl; have e5 := hI.g 5 rfl; have f5 := slot_bool e5; obtain rfl := hI.wp; go_simp; exact hI.s 6
  · intro a w (hI : SR _ _ _ _ a w); have e6 := hI.g 6 rfl; have e5 := hI.g 5 rfl; have f5 := slot_bool e5; obtain rfl := hI.wp; have z2 : ¬ (x ≤ (256 : Int)) := (by omega); go_simp; exact hI.s 7
  · intro a w (hI : SR _ _ _ _ a w); have e5 := hI.g 5 rfl; have e7 := hI.g 7 rfl; obtain rfl := hI.wp; go_simp; exact hI.s 8
  · intro a w (hI : SR _ _ _ _ a w); have e8 := hI.g 8 rfl; obtain rfl := hI.wp; go_simp; exact hI.s 2
  · intro a w (hI : SR _ _ _ _ a w); obtain rfl := hI.wp
    exact hQ a hI
noncomputable def C12 : Code := Try.f12.body.getD .skip
theorem ck0 (n : Nat) (W : World) (X Y Z : Int) (cv : Value) (Q : Po) (a : Act) (h0 : SR [(0, .agg #[(ii X), (ii Y), (ii Z), cv])] 40 [] W a W)
    (hQ : ∀ a, SR [(1, .pointer (some ⟨W.heap.size, 0, none⟩))] 40 [] (W.alloc (.cells #[(ii X), (ii Y), (ii Z), cv] 24)) a (W.alloc (.cells #[(ii X), (ii Y), (ii Z), cv] 24)) → Q .normal a (W.alloc (.cells #[(ii X), (ii Y), (ii Z), cv] 24))) : (regOf 0 C12).wpIn Fence.wide n Try.prog Q a W := by
  simp only [regOf, C12, Try.f12, Option.getD, Nat.reduceBEq, Bool.false_eq_true, if_true, if_false]
  refine region_sq (fun k_ a w => match k_ with | 0 => SR [(0, .agg #[(ii X), (ii Y), (ii Z), cv])] 40 [] W a w | 1 => SR [(1, .pointer (some ⟨W.heap.size, 0, none⟩))] 40 [] (W.alloc (.cells #[(ii X), (ii Y), (ii Z), cv] 24)) a w | _ => SR [(1, .pointer (some ⟨W.heap.size, 0, none⟩))] 40 [] (W.alloc (.cells #[(ii X), (ii Y), (ii Z), cv] 24)) a w) h0 ⟨?_, ?_, trivial⟩ ?_
  · intro a w (hI : SR _ _ _ _ a w); have e0 := hI.g 0 rfl; obtain rfl := hI.wp; go_simp; exact hI.s 1
  · intro a w (hI : SR _ _ _ _ a w); obtain rfl := hI.wp; go_simp; exact hI.s 2
  · intro a w (hI : SR _ _ _ _ a w); obtain rfl := hI.wp
    exact hQ a hI
theorem ck1a (n : Nat) {G : World → Prop} (hS : Stable G) (B : Nat) (X Y Z : Int) (c0 : CE G B 0 ((ii X))) (h1 : CR G 23 #[(ii X)] (.bool false)) (Q : Po) (a : Act) (w : World) (h0 : SG [(1, pt B 0)] 40 G a w)
    (hQ : ∀ a w, SG [(1, pt B 0), (18, .bool true)] 40 G a w → Q .normal a w) : (regOf 1 C12).wpIn Fence.wide n Try.prog Q a w := by
  simp only [regOf, C12, Try.f12, Option.getD, Nat.reduceBEq, Bool.false_eq_true, if_true, if_false]
  refine region_sq (fun k_ a w => match k_ with | 0 => SG [(1, pt B 0)] 40 G a w | 1 => SG [(1, pt B 0), (3, pt B 0)] 40 G a w | 2 => SG [(1, pt B 0), (4, ii X)] 40 G a w | 3 => SG [(1, pt B 0), (5, .bool false)] 40 G a w | 4 => SG [(1, pt B 0), (6, .bool true)] 40 G a w | 5 => SG [(1, pt B 0), (7, .bool true)] 40 G a w | 6 => SG [(1, pt B 0), (7, .bool true)] 40 G a w | 7 => SG [(1, pt B 0), (7, .bool true)] 40 G a w | 8 => SG [(1, pt B 0), (7, .bool true)] 40 G a w | 9 => SG [(1, pt B 0), (7, .bool true)] 40 G a w | 10 => SG [(1, pt B 0), (12, .bool true)] 40 G a w | 11 => SG [(1, pt B 0), (13, .bool true)] 40 G a w | 12 => SG [(1, pt B 0), (13, .bool true)] 40 G a w | 13 => SG [(1, pt B 0), (13, .bool true)] 40 G a w | 14 => SG [(1, pt B 0), (13, .bool true)] 40 G a w | 15 => SG [(1, pt B 0), (13, .bool true)] 40 G a w | _ => SG [(1, pt B 0), (18, .bool true)] 40 G a w) h0 ⟨?_, ?_, ?_, ?_, ?_, ?_, ?_, ?_, ?_, ?_, ?_, ?_, ?_, ?_, ?_, ?_, trivial⟩ ?_
  · intro a w (hI : SG _ _ G a w); have e1 := hI.g 1 rfl; go_simp; exact hI.q 3
  · intro a w (hI : SG _ _ G a w); have e3 := hI.g 3 rfl; have cc0 := c0 w hI.wp; go_simp; exact hI.q 4
  · intro a w (hI : SG _ _ G a w); have e4 := hI.g 4 rfl; go_simp
    refine ⟨trivial, fun h => (by cases h), (h1 (n - 1) w hI.wp).mono ?_⟩
    rintro e w' ⟨rfl, hb2⟩
    exact hI.put (d := 5) (by decide) (by simp) (hS _ _ hI.wp hb2)
  · intro a w (hI : SG _ _ G a w); have e5 := hI.g 5 rfl; go_simp; exact hI.q 6
  · intro a w (hI : SG _ _ G a w); have e6 := hI.g 6 rfl; go_simp; exact hI.q 7
  · intro a w (hI : SG _ _ G a w); have e7 := hI.g 7 rfl; have f7 := slot_bool e7; go_simp; exact hI.q 8
  · intro a w (hI : SG _ _ G a w); have e7 := hI.g 7 rfl; have f7 := slot_bool e7; go_simp; exact hI.q 9
  · intro a w (hI : SG _ _ G a w); have e7 := hI.g 7 rfl; have f7 := slot_bool e7; go_simp
    refine ⟨trivial, ?_⟩
    exact hI.q 10
  · intro a w (hI : SG _ _ G a w); have e7 := hI.g 7 rfl; have f7 := slot_bool e7; go_simp; exact hI.q 11
  · intro a w (hI : SG _ _ G a w); have e7 := hI.g 7 rfl; go_simp; exact hI.q 12
  · intro a w (hI : SG _ _ G a w); have e12 := hI.g 12 rfl; go_simp; exact hI.q 13
  · intro a w (hI : SG _ _ G a w); have e13 := hI.g 13 rfl; have f13 := slot_bool e13; go_simp; exact hI.q 14
  · intro a w (hI : SG _ _ G a w); have e13 := hI.g 13 rfl; have f13 := slot_bool e13; go_simp; exact hI.q 15
  · intro a w (hI : SG _ _ G a w); have e13 := hI.g 13 rfl; have f13 := slot_bool e13; go_simp
    refine ⟨trivial, ?_⟩
    exact hI.q 16
  · intro a w (hI : SG _ _ G a w); have e13 := hI.g 13 rfl; have f13 := slot_bool e13; go_simp; exact hI.q 17
  · intro a w (hI : SG _ _ G a w); have e13 := hI.g 13 rfl; go_simp; exact hI.q 18
  · intro a w (hI : SG _ _ G a w)
    exact hQ a w hI
theorem ck1b (n : Nat) {G : World → Prop} (hS : Stable G) (B : Nat) (X Y Z : Int) (c0 : CE G B 0 ((ii X))) (c1 : CE G B 1 ((ii Y))) (h1 : CR G 23 #[(ii X)] (.bool true)) (h2 : CR G 23 #[(ii Y)] (.bool false)) (Q : Po) (a : Act) (w : World) (h0 : SG [(1, pt B 0)] 40 G a w)
    (hQ : ∀ a w, SG [(1, pt B 0), (18, .bool true)] 40 G a w → Q .normal a w) : (regOf 1 C12).wpIn Fence.wide n Try.prog Q a w := by
  simp only [regOf, C12, Try.f12, Option.getD, Nat.reduceBEq, Bool.false_eq_true, if_true, if_false]
  refine region_sq (fun k_ a w => match k_ with | 0 => SG [(1, pt B 0)] 40 G a w | 1 => SG [(1, pt B 0), (3, pt B 0)] 40 G a w | 2 => SG [(1, pt B 0), (4, ii X)] 40 G a w | 3 => SG [(1, pt B 0), (5, .bool true)] 40 G a w | 4 => SG [(1, pt B 0), (6, .bool false)] 40 G a w | 5 => SG [(1, pt B 0), (7, .bool false)] 40 G a w | 6 => SG [(1, pt B 0), (7, .bool false), (8, pt B 1)] 40 G a w | 7 => SG [(1, pt B 0), (7, .bool false), (9, ii Y)] 40 G a w | 8 => SG [(1, pt B 0), (7, .bool false), (10, .bool false)] 40 G a w | 9 => SG [(1, pt B 0), (7, .bool false), (11, .bool true)] 40 G a w | 10 => SG [(1, pt B 0), (12, .bool true)] 40 G a w | 11 => SG [(1, pt B 0), (13, .bool true)] 40 G a w | 12 => SG [(1, pt B 0), (13, .bool true)] 40 G a w | 13 => SG [(1, pt B 0), (13, .bool true)] 40 G a w | 14 => SG [(1, pt B 0), (13, .bool true)] 40 G a w | 15 => SG [(1, pt B 0), (13, .bool true)] 40 G a w | _ => SG [(1, pt B 0), (18, .bool true)] 40 G a w) h0 ⟨?_, ?_, ?_, ?_, ?_, ?_, ?_, ?_, ?_, ?_, ?_, ?_, ?_, ?_, ?_, ?_, trivial⟩ ?_
  · intro a w (hI : SG _ _ G a w); have e1 := hI.g 1 rfl; go_simp; exact hI.q 3
  · intro a w (hI : SG _ _ G a w); have e3 := hI.g 3 rfl; have cc0 := c0 w hI.wp; go_simp; exact hI.q 4
  · intro a w (hI : SG _ _ G a w); have e4 := hI.g 4 rfl; go_simp
    refine ⟨trivial, fun h => (by cases h), (h1 (n - 1) w hI.wp).mono ?_⟩
    rintro e w' ⟨rfl, hb2⟩
    exact hI.put (d := 5) (by decide) (by simp) (hS _ _ hI.wp hb2)
  · intro a w (hI : SG _ _ G a w); have e5 := hI.g 5 rfl; go_simp; exact hI.q 6
  · intro a w (hI : SG _ _ G a w); have e6 := hI.g 6 rfl; go_simp; exact hI.q 7
  · intro a w (hI : SG _ _ G a w); have e1 := hI.g 1 rfl; have e7 := hI.g 7 rfl; have f7 := slot_bool e7; go_simp; exact hI.q 8
  · intro a w (hI : SG _ _ G a w); have e8 := hI.g 8 rfl; have e7 := hI.g 7 rfl; have f7 := slot_bool e7; have cc0 := c1 w hI.wp; go_simp; exact hI.q 9
  · intro a w (hI : SG _ _ G a w); have e9 := hI.g 9 rfl; have e7 := hI.g 7 rfl; have f7 := slot_bool e7; go_simp
    refine ⟨trivial, fun h => (by cases h), (h2 (n - 1) w hI.wp).mono ?_⟩
    rintro e w' ⟨rfl, hb2⟩
    exact hI.put (d := 10) (by decide) (by simp) (hS _ _ hI.wp hb2)
  · intro a w (hI : SG _ _ G a w); have e10 := hI.g 10 rfl; have e7 := hI.g 7 rfl; have f7 := slot_bool e7; go_simp; exact hI.q 11
  · intro a w (hI : SG _ _ G a w); have e7 := hI.g 7 rfl; have e11 := hI.g 11 rfl; go_simp; exact hI.q 12
  · intro a w (hI : SG _ _ G a w); have e12 := hI.g 12 rfl; go_simp; exact hI.q 13
  · intro a w (hI : SG _ _ G a w); have e13 := hI.g 13 rfl; have f13 := slot_bool e13; go_simp; exact hI.q 14
  · intro a w (hI : SG _ _ G a w); have e13 := hI.g 13 rfl; have f13 := slot_bool e13; go_simp; exact hI.q 15
  · intro a w (hI : SG _ _ G a w); have e13 := hI.g 13 rfl; have f13 := slot_bool e13; go_simp
    refine ⟨trivial, ?_⟩
    exact hI.q 16
  · intro a w (hI : SG _ _ G a w); have e13 := hI.g 13 rfl; have f13 := slot_bool e13; go_simp; exact hI.q 17
  · intro a w (hI : SG _ _ G a w); have e13 := hI.g 13 rfl; go_simp; exact hI.q 18
  · intro a w (hI : SG _ _ G a w)
    exact hQ a w hI
theorem ck1c (n : Nat) {G : World → Prop} (hS : Stable G) (B : Nat) (X Y Z : Int) (c0 : CE G B 0 ((ii X))) (c1 : CE G B 1 ((ii Y))) (c2_ : CE G B 2 ((ii Z))) (h1 : CR G 23 #[(ii X)] (.bool true)) (h2 : CR G 23 #[(ii Y)] (.bool true)) (h3 : CR G 23 #[(ii Z)] (.bool false)) (Q : Po) (a : Act) (w : World) (h0 : SG [(1, pt B 0)] 40 G a w)
    (hQ : ∀ a w, SG [(1, pt B 0), (18, .bool true)] 40 G a w → Q .normal a w) : (regOf 1 C12).wpIn Fence.wide n Try.prog Q a w := by
  simp only [regOf, C12, Try.f12, Option.getD, Nat.reduceBEq, Bool.false_eq_true, if_true, if_false]
  refine region_sq (fun k_ a w => match k_ with | 0 => SG [(1, pt B 0)] 40 G a w | 1 => SG [(1, pt B 0), (3, pt B 0)] 40 G a w | 2 => SG [(1, pt B 0), (4, ii X)] 40 G a w | 3 => SG [(1, pt B 0), (5, .bool true)] 40 G a w | 4 => SG [(1, pt B 0), (6, .bool false)] 40 G a w | 5 => SG [(1, pt B 0), (7, .bool false)] 40 G a w | 6 => SG [(1, pt B 0), (7, .bool false), (8, pt B 1)] 40 G a w | 7 => SG [(1, pt B 0), (7, .bool false), (9, ii Y)] 40 G a w | 8 => SG [(1, pt B 0), (7, .bool false), (10, .bool true)] 40 G a w | 9 => SG [(1, pt B 0), (7, .bool false), (11, .bool false)] 40 G a w | 10 => SG [(1, pt B 0), (12, .bool false)] 40 G a w | 11 => SG [(1, pt B 0), (13, .bool false)] 40 G a w | 12 => SG [(1, pt B 0), (13, .bool false), (14, pt B 2)] 40 G a w | 13 => SG [(1, pt B 0), (13, .bool false), (15, ii Z)] 40 G a w | 14 => SG [(1, pt B 0), (13, .bool false), (16, .bool false)] 40 G a w | 15 => SG [(1, pt B 0), (13, .bool false), (17, .bool true)] 40 G a w | _ => SG [(1, pt B 0), (18, .bool true)] 40 G a w) h0 ⟨?_, ?_, ?_, ?_, ?_, ?_, ?_, ?_, ?_, ?_, ?_, ?_, ?_, ?_, ?_, ?_, trivial⟩ ?_
  · intro a w (hI : SG _ _ G a w); have e1 := hI.g 1 rfl; go_simp; exact hI.q 3
  · intro a w (hI : SG _ _ G a w); have e3 := hI.g 3 rfl; have cc0 := c0 w hI.wp; go_simp; exact hI.q 4
  · intro a w (hI : SG _ _ G a w); have e4 := hI.g 4 rfl; go_simp
    refine ⟨trivial, fun h => (by cases h), (h1 (n - 1) w hI.wp).mono ?_⟩
    rintro e w' ⟨rfl, hb2⟩
    exact hI.put (d := 5) (by decide) (by simp) (hS _ _ hI.wp hb2)
  · intro a w (hI : SG _ _ G a w); have e5 := hI.g 5 rfl; go_simp; exact hI.q 6
  · intro a w (hI : SG _ _ G a w); have e6 := hI.g 6 rfl; go_simp; exact hI.q 7
  · intro a w (hI : SG _ _ G a w); have e1 := hI.g 1 rfl; have e7 := hI.g 7 rfl; have f7 := slot_bool e7; go_simp; exact hI.q 8
  · intro a w (hI : SG _ _ G a w); have e8 := hI.g 8 rfl; have e7 := hI.g 7 rfl; have f7 := slot_bool e7; have cc0 := c1 w hI.wp; go_simp; exact hI.q 9
  · intro a w (hI : SG _ _ G a w); have e9 := hI.g 9 rfl; have e7 := hI.g 7 rfl; have f7 := slot_bool e7; go_simp
    refine ⟨trivial, fun h => (by cases h), (h2 (n - 1) w hI.wp).mono ?_⟩
    rintro e w' ⟨rfl, hb2⟩
    exact hI.put (d := 10) (by decide) (by simp) (hS _ _ hI.wp hb2)
  · intro a w (hI : SG _ _ G a w); have e10 := hI.g 10 rfl; have e7 := hI.g 7 rfl; have f7 := slot_bool e7; go_simp; exact hI.q 11
  · intro a w (hI : SG _ _ G a w); have e7 := hI.g 7 rfl; have e11 := hI.g 11 rfl; go_simp; exact hI.q 12
  · intro a w (hI : SG _ _ G a w); have e12 := hI.g 12 rfl; go_simp; exact hI.q 13
  · intro a w (hI : SG _ _ G a w); have e1 := hI.g 1 rfl; have e13 := hI.g 13 rfl; have f13 := slot_bool e13; go_simp; exact hI.q 14
  · intro a w (hI : SG _ _ G a w); have e14 := hI.g 14 rfl; have e13 := hI.g 13 rfl; have f13 := slot_bool e13; have cc0 := c2_ w hI.wp; go_simp; exact hI.q 15
  · intro a w (hI : SG _ _ G a w); have e15 := hI.g 15 rfl; have e13 := hI.g 13 rfl; have f13 := slot_bool e13; go_simp
    refine ⟨trivial, fun h => (by cases h), (h3 (n - 1) w hI.wp).mono ?_⟩
    rintro e w' ⟨rfl, hb2⟩
    exact hI.put (d := 16) (by decide) (by simp) (hS _ _ hI.wp hb2)
  · intro a w (hI : SG _ _ G a w); have e16 := hI.g 16 rfl; have e13 := hI.g 13 rfl; have f13 := slot_bool e13; go_simp; exact hI.q 17
  · intro a w (hI : SG _ _ G a w); have e13 := hI.g 13 rfl; have e17 := hI.g 17 rfl; go_simp; exact hI.q 18
  · intro a w (hI : SG _ _ G a w)
    exact hQ a w hI
theorem ck1d (n : Nat) {G : World → Prop} (hS : Stable G) (B : Nat) (X Y Z : Int) (c0 : CE G B 0 ((ii X))) (c1 : CE G B 1 ((ii Y))) (c2_ : CE G B 2 ((ii Z))) (h1 : CR G 23 #[(ii X)] (.bool true)) (h2 : CR G 23 #[(ii Y)] (.bool true)) (h3 : CR G 23 #[(ii Z)] (.bool true)) (Q : Po) (a : Act) (w : World) (h0 : SG [(1, pt B 0)] 40 G a w)
    (hQ : ∀ a w, SG [(1, pt B 0), (18, .bool false)] 40 G a w → Q .normal a w) : (regOf 1 C12).wpIn Fence.wide n Try.prog Q a w := by
  simp only [regOf, C12, Try.f12, Option.getD, Nat.reduceBEq, Bool.false_eq_true, if_true, if_false]
  refine region_sq (fun k_ a w => match k_ with | 0 => SG [(1, pt B 0)] 40 G a w | 1 => SG [(1, pt B 0), (3, pt B 0)] 40 G a w | 2 => SG [(1, pt B 0), (4, ii X)] 40 G a w | 3 => SG [(1, pt B 0), (5, .bool true)] 40 G a w | 4 => SG [(1, pt B 0), (6, .bool false)] 40 G a w | 5 => SG [(1, pt B 0), (7, .bool false)] 40 G a w | 6 => SG [(1, pt B 0), (7, .bool false), (8, pt B 1)] 40 G a w | 7 => SG [(1, pt B 0), (7, .bool false), (9, ii Y)] 40 G a w | 8 => SG [(1, pt B 0), (7, .bool false), (10, .bool true)] 40 G a w | 9 => SG [(1, pt B 0), (7, .bool false), (11, .bool false)] 40 G a w | 10 => SG [(1, pt B 0), (12, .bool false)] 40 G a w | 11 => SG [(1, pt B 0), (13, .bool false)] 40 G a w | 12 => SG [(1, pt B 0), (13, .bool false), (14, pt B 2)] 40 G a w | 13 => SG [(1, pt B 0), (13, .bool false), (15, ii Z)] 40 G a w | 14 => SG [(1, pt B 0), (13, .bool false), (16, .bool true)] 40 G a w | 15 => SG [(1, pt B 0), (13, .bool false), (17, .bool false)] 40 G a w | _ => SG [(1, pt B 0), (18, .bool false)] 40 G a w) h0 ⟨?_, ?_, ?_, ?_, ?_, ?_, ?_, ?_, ?_, ?_, ?_, ?_, ?_, ?_, ?_, ?_, trivial⟩ ?_
  · intro a w (hI : SG _ _ G a w); have e1 := hI.g 1 rfl; go_simp; exact hI.q 3
  · intro a w (hI : SG _ _ G a w); have e3 := hI.g 3 rfl; have cc0 := c0 w hI.wp; go_simp; exact hI.q 4
  · intro a w (hI : SG _ _ G a w); have e4 := hI.g 4 rfl; go_simp
    refine ⟨trivial, fun h => (by cases h), (h1 (n - 1) w hI.wp).mono ?_⟩
    rintro e w' ⟨rfl, hb2⟩
    exact hI.put (d := 5) (by decide) (by simp) (hS _ _ hI.wp hb2)
  · intro a w (hI : SG _ _ G a w); have e5 := hI.g 5 rfl; go_simp; exact hI.q 6
  · intro a w (hI : SG _ _ G a w); have e6 := hI.g 6 rfl; go_simp; exact hI.q 7
  · intro a w (hI : SG _ _ G a w); have e1 := hI.g 1 rfl; have e7 := hI.g 7 rfl; have f7 := slot_bool e7; go_simp; exact hI.q 8
  · intro a w (hI : SG _ _ G a w); have e8 := hI.g 8 rfl; have e7 := hI.g 7 rfl; have f7 := slot_bool e7; have cc0 := c1 w hI.wp; go_simp; exact hI.q 9
  · intro a w (hI : SG _ _ G a w); have e9 := hI.g 9 rfl; have e7 := hI.g 7 rfl; have f7 := slot_bool e7; go_simp
    refine ⟨trivial, fun h => (by cases h), (h2 (n - 1) w hI.wp).mono ?_⟩
    rintro e w' ⟨rfl, hb2⟩
    exact hI.put (d := 10) (by decide) (by simp) (hS _ _ hI.wp hb2)
  · intro a w (hI : SG _ _ G a w); have e10 := hI.g 10 rfl; have e7 := hI.g 7 rfl; have f7 := slot_bool e7; go_simp; exact hI.q 11
  · intro a w (hI : SG _ _ G a w); have e7 := hI.g 7 rfl; have e11 := hI.g 11 rfl; go_simp; exact hI.q 12
  · intro a w (hI : SG _ _ G a w); have e12 := hI.g 12 rfl; go_simp; exact hI.q 13
  · intro a w (hI : SG _ _ G a w); have e1 := hI.g 1 rfl; have e13 := hI.g 13 rfl; have f13 := slot_bool e13; go_simp; exact hI.q 14
  · intro a w (hI : SG _ _ G a w); have e14 := hI.g 14 rfl; have e13 := hI.g 13 rfl; have f13 := slot_bool e13; have cc0 := c2_ w hI.wp; go_simp; exact hI.q 15
  · intro a w (hI : SG _ _ G a w); have e15 := hI.g 15 rfl; have e13 := hI.g 13 rfl; have f13 := slot_bool e13; go_simp
    refine ⟨trivial, fun h => (by cases h), (h3 (n - 1) w hI.wp).mono ?_⟩
    rintro e w' ⟨rfl, hb2⟩
    exact hI.put (d := 16) (by decide) (by simp) (hS _ _ hI.wp hb2)
  · intro a w (hI : SG _ _ G a w); have e16 := hI.g 16 rfl; have e13 := hI.g 13 rfl; have f13 := slot_bool e13; go_simp; exact hI.q 17
  · intro a w (hI : SG _ _ G a w); have e13 := hI.g 13 rfl; have e17 := hI.g 17 rfl; go_simp; exact hI.q 18
  · intro a w (hI : SG _ _ G a w)
    exact hQ a w hI
theorem ck2 (n : Nat) (W : World)  (Q : Po) (a : Act) (h0 : SR [] 40 [] W a W)
    (hQ : ∀ a, SR [(2, ii 2)] 40 [] W a W → Q .normal a W) : (regOf 2 C12).wpIn Fence.wide n Try.prog Q a W := by
  simp only [regOf, C12, Try.f12, Option.getD, Nat.reduceBEq, Bool.false_eq_true, if_true, if_false]
  refine region_sq (fun k_ a w => match k_ with | 0 => SR [] 40 [] W a w | _ => SR [(2, ii 2)] 40 [] W a w) h0 ⟨?_, trivial⟩ ?_
  · intro a w (hI : SR _ _ _ _ a w); obtain rfl := hI.wp; go_simp; exact hI.s 2
  · intro a w (hI : SR _ _ _ _ a w); obtain rfl := hI.wp
    exact hQ a hI
theorem ck3t (n : Nat) (W : World) (B X Y Z p q : Nat) (h1 : IntKind.i64.wrap ((X : Int) * Y) = (p : Int)) (h2 : IntKind.i64.wrap ((p : Int) * Z) = (q : Int)) (hq : 262144 < q) (c0 : W.cell? ⟨B, 0, none⟩ = some (ii X)) (c1 : W.cell? ⟨B, 1, none⟩ = some (ii Y)) (c2_ : W.cell? ⟨B, 2, none⟩ = some (ii Z)) (Q : Po) (a : Act) (h0 : SR [(1, pt B 0)] 40 [] W a W)
    (hQ : ∀ a, SR [(1, pt B 0), (27, .bool true)] 40 [] W a W → Q .normal a W) : (regOf 3 C12).wpIn Fence.wide n Try.prog Q a W := by
  simp only [regOf, C12, Try.f12, Option.getD, Nat.reduceBEq, Bool.false_eq_true, if_true, if_false]
  refine region_sq (fun k_ a w => match k_ with | 0 => SR [(1, pt B 0)] 40 [] W a w | 1 => SR [(1, pt B 0), (19, pt B 0)] 40 [] W a w | 2 => SR [(1, pt B 0), (20, ii X)] 40 [] W a w | 3 => SR [(1, pt B 0), (20, ii X), (21, pt B 1)] 40 [] W a w | 4 => SR [(1, pt B 0), (20, ii X), (22, ii Y)] 40 [] W a w | 5 => SR [(1, pt B 0), (23, ii p)] 40 [] W a w | 6 => SR [(1, pt B 0), (23, ii p), (24, pt B 2)] 40 [] W a w | 7 => SR [(1, pt B 0), (23, ii p), (25, ii Z)] 40 [] W a w | 8 => SR [(1, pt B 0), (26, ii q)] 40 [] W a w | _ => SR [(1, pt B 0), (27, .bool true)] 40 [] W a w) h0 ⟨?_, ?_, ?_, ?_, ?_, ?_, ?_, ?_, ?_, trivial⟩ ?_
  · intro a w (hI : SR _ _ _ _ a w); have e1 := hI.g 1 rfl; obtain rfl := hI.wp; go_simp; exact hI.s 19
  · intro a w (hI : SR _ _ _ _ a w); have e19 := hI.g 19 rfl; obtain rfl := hI.wp; go_simp; exact hI.s 20
  · intro a w (hI : SR _ _ _ _ a w); have e1 := hI.g 1 rfl; obtain rfl := hI.wp; go_simp; exact hI.s 21
  · intro a w (hI : SR _ _ _ _ a w); have e21 := hI.g 21 rfl; obtain rfl := hI.wp; go_simp; exact hI.s 22
  · intro a w (hI : SR _ _ _ _ a w); have e20 := hI.g 20 rfl; have e22 := hI.g 22 rfl; obtain rfl := hI.wp; go_simp; exact hI.s 23
  · intro a w (hI : SR _ _ _ _ a w); have e1 := hI.g 1 rfl; obtain rfl := hI.wp; go_simp; exact hI.s 24
  · intro a w (hI : SR _ _ _ _ a w); have e24 := hI.g 24 rfl; obtain rfl := hI.wp; go_simp; exact hI.s 25
  · intro a w (hI : SR _ _ _ _ a w); have e23 := hI.g 23 rfl; have e25 := hI.g 25 rfl; obtain rfl := hI.wp; go_simp; exact hI.s 26
  · intro a w (hI : SR _ _ _ _ a w); have e26 := hI.g 26 rfl; obtain rfl := hI.wp; have z1 : (262144 : Int) < q := (by omega); go_simp; exact hI.s 27
  · intro a w (hI : SR _ _ _ _ a w); obtain rfl := hI.wp
    exact hQ a hI
theorem ck3f (n : Nat) (W : World) (B X Y Z p q : Nat) (h1 : IntKind.i64.wrap ((X : Int) * Y) = (p : Int)) (h2 : IntKind.i64.wrap ((p : Int) * Z) = (q : Int)) (hq : ¬ 262144 < q) (c0 : W.cell? ⟨B, 0, none⟩ = some (ii X)) (c1 : W.cell? ⟨B, 1, none⟩ = some (ii Y)) (c2_ : W.cell? ⟨B, 2, none⟩ = some (ii Z)) (Q : Po) (a : Act) (h0 : SR [(1, pt B 0)] 40 [] W a W)
    (hQ : ∀ a, SR [(1, pt B 0), (27, .bool false)] 40 [] W a W → Q .normal a W) : (regOf 3 C12).wpIn Fence.wide n Try.prog Q a W := by
  simp only [regOf, C12, Try.f12, Option.getD, Nat.reduceBEq, Bool.false_eq_true, if_true, if_false]
  refine region_sq (fun k_ a w => match k_ with | 0 => SR [(1, pt B 0)] 40 [] W a w | 1 => SR [(1, pt B 0), (19, pt B 0)] 40 [] W a w | 2 => SR [(1, pt B 0), (20, ii X)] 40 [] W a w | 3 => SR [(1, pt B 0), (20, ii X), (21, pt B 1)] 40 [] W a w | 4 => SR [(1, pt B 0), (20, ii X), (22, ii Y)] 40 [] W a w | 5 => SR [(1, pt B 0), (23, ii p)] 40 [] W a w | 6 => SR [(1, pt B 0), (23, ii p), (24, pt B 2)] 40 [] W a w | 7 => SR [(1, pt B 0), (23, ii p), (25, ii Z)] 40 [] W a w | 8 => SR [(1, pt B 0), (26, ii q)] 40 [] W a w | _ => SR [(1, pt B 0), (27, .bool false)] 40 [] W a w) h0 ⟨?_, ?_, ?_, ?_, ?_, ?_, ?_, ?_, ?_, trivial⟩ ?_
  · intro a w (hI : SR _ _ _ _ a w); have e1 := hI.g 1 rfl; obtain rfl := hI.wp; go_simp; exact hI.s 19
  · intro a w (hI : SR _ _ _ _ a w); have e19 := hI.g 19 rfl; obtain rfl := hI.wp; go_simp; exact hI.s 20
  · intro a w (hI : SR _ _ _ _ a w); have e1 := hI.g 1 rfl; obtain rfl := hI.wp; go_simp; exact hI.s 21
  · intro a w (hI : SR _ _ _ _ a w); have e21 := hI.g 21 rfl; obtain rfl := hI.wp; go_simp; exact hI.s 22
  · intro a w (hI : SR _ _ _ _ a w); have e20 := hI.g 20 rfl; have e22 := hI.g 22 rfl; obtain rfl := hI.wp; go_simp; exact hI.s 23
  · intro a w (hI : SR _ _ _ _ a w); have e1 := hI.g 1 rfl; obtain rfl := hI.wp; go_simp; exact hI.s 24
  · intro a w (hI : SR _ _ _ _ a w); have e24 := hI.g 24 rfl; obtain rfl := hI.wp; go_simp; exact hI.s 25
  · intro a w (hI : SR _ _ _ _ a w); have e23 := hI.g 23 rfl; have e25 := hI.g 25 rfl; obtain rfl := hI.wp; go_simp; exact hI.s 26
  · intro a w (hI : SR _ _ _ _ a w); have e26 := hI.g 26 rfl; obtain rfl := hI.wp; have z1 : ¬ (262144 : Int) < q := (by omega); go_simp; exact hI.s 27
  · intro a w (hI : SR _ _ _ _ a w); obtain rfl := hI.wp
    exact hQ a hI
theorem ck4 (n : Nat) (W : World)  (Q : Po) (a : Act) (h0 : SR [] 40 [] W a W)
    (hQ : ∀ a, SR [(2, ii 3)] 40 [] W a W → Q .normal a W) : (regOf 4 C12).wpIn Fence.wide n Try.prog Q a W := by
  simp only [regOf, C12, Try.f12, Option.getD, Nat.reduceBEq, Bool.false_eq_true, if_true, if_false]
  refine region_sq (fun k_ a w => match k_ with | 0 => SR [] 40 [] W a w | _ => SR [(2, ii 3)] 40 [] W a w) h0 ⟨?_, trivial⟩ ?_
  · intro a w (hI : SR _ _ _ _ a w); obtain rfl := hI.wp; go_simp; exact hI.s 2
  · intro a w (hI : SR _ _ _ _ a w); obtain rfl := hI.wp
    exact hQ a hI
theorem ck5 (n : Nat) (W : World) (B X Y Z p q : Nat) (h1 : IntKind.i64.wrap ((X : Int) * Y) = (p : Int)) (h2 : IntKind.i64.wrap ((p : Int) * Z) = (q : Int)) (sp : Option Addr) (len cap : Nat) (c3 : W.cell? ⟨B, 3, none⟩ = some (.slice sp len cap)) (c0 : W.cell? ⟨B, 0, none⟩ = some (ii X)) (c1 : W.cell? ⟨B, 1, none⟩ = some (ii Y)) (c2_ : W.cell? ⟨B, 2, none⟩ = some (ii Z)) (Q : Po) (a : Act) (h0 : SR [(1, pt B 0)] 40 [] W a W)
    (hQ : ∀ a, SR [(39, .bool ((len : Int) != q))] 40 [] W a W → Q .normal a W) : (regOf 5 C12).wpIn Fence.wide n Try.prog Q a W := by
  simp only [regOf, C12, Try.f12, Option.getD, Nat.reduceBEq, Bool.false_eq_true, if_true, if_false]
  refine region_sq (fun k_ a w => match k_ with | 0 => SR [(1, pt B 0)] 40 [] W a w | 1 => SR [(1, pt B 0), (28, pt B 3)] 40 [] W a w | 2 => SR [(1, pt B 0), (29, .slice sp len cap)] 40 [] W a w | 3 => SR [(1, pt B 0), (30, ii len)] 40 [] W a w | 4 => SR [(1, pt B 0), (30, ii len), (31, pt B 0)] 40 [] W a w | 5 => SR [(1, pt B 0), (30, ii len), (32, ii X)] 40 [] W a w | 6 => SR [(1, pt B 0), (30, ii len), (32, ii X), (33, pt B 1)] 40 [] W a w | 7 => SR [(1, pt B 0), (30, ii len), (32, ii X), (34, ii Y)] 40 [] W a w | 8 => SR [(1, pt B 0), (30, ii len), (35, ii p)] 40 [] W a w | 9 => SR [(30, ii len), (35, ii p), (36, pt B 2)] 40 [] W a w | 10 => SR [(30, ii len), (35, ii p), (37, ii Z)] 40 [] W a w | 11 => SR [(30, ii len), (38, ii q)] 40 [] W a w | _ => SR [(39, .bool ((len : Int) != q))] 40 [] W a w) h0 ⟨?_, ?_, ?_, ?_, ?_, ?_, ?_, ?_, ?_, ?_, ?_, ?_, trivial⟩ ?_
  · intro a w (hI : SR _ _ _ _ a w); have e1 := hI.g 1 rfl; obtain rfl := hI.wp; go_simp; exact hI.s 28
  · intro a w (hI : SR _ _ _ _ a w); have e28 := hI.g 28 rfl; obtain rfl := hI.wp; go_simp; exact hI.s 29
  · intro a w (hI : SR _ _ _ _ a w); have e29 := hI.g 29 rfl; obtain rfl := hI.wp; go_simp; exact hI.s 30
  · intro a w (hI : SR _ _ _ _ a w); have e1 := hI.g 1 rfl; obtain rfl := hI.wp; go_simp; exact hI.s 31
  · intro a w (hI : SR _ _ _ _ a w); have e31 := hI.g 31 rfl; obtain rfl := hI.wp; go_simp; exact hI.s 32
  · intro a w (hI : SR _ _ _ _ a w); have e1 := hI.g 1 rfl; obtain rfl := hI.wp; go_simp; exact hI.s 33
  · intro a w (hI : SR _ _ _ _ a w); have e33 := hI.g 33 rfl; obtain rfl := hI.wp; go_simp; exact hI.s 34
  · intro a w (hI : SR _ _ _ _ a w); have e32 := hI.g 32 rfl; have e34 := hI.g 34 rfl; obtain rfl := hI.wp; go_simp; exact hI.s 35
  · intro a w (hI : SR _ _ _ _ a w); have e1 := hI.g 1 rfl; obtain rfl := hI.wp; go_simp; exact hI.s 36
  · intro a w (hI : SR _ _ _ _ a w); have e36 := hI.g 36 rfl; obtain rfl := hI.wp; go_simp; exact hI.s 37
  · intro a w (hI : SR _ _ _ _ a w); have e35 := hI.g 35 rfl; have e37 := hI.g 37 rfl; obtain rfl := hI.wp; go_simp; exact hI.s 38
  · intro a w (hI : SR _ _ _ _ a w); have e30 := hI.g 30 rfl; have e38 := hI.g 38 rfl; obtain rfl := hI.wp; go_simp; exact hI.s 39
  · intro a w (hI : SR _ _ _ _ a w); obtain rfl := hI.wp
    exact hQ a hI
theorem ck6 (n : Nat) (W : World)  (Q : Po) (a : Act) (h0 : SR [] 40 [] W a W)
    (hQ : ∀ a, SR [(2, ii 2)] 40 [] W a W → Q .normal a W) : (regOf 6 C12).wpIn Fence.wide n Try.prog Q a W := by
  simp only [regOf, C12, Try.f12, Option.getD, Nat.reduceBEq, Bool.false_eq_true, if_true, if_false]
  refine region_sq (fun k_ a w => match k_ with | 0 => SR [] 40 [] W a w | _ => SR [(2, ii 2)] 40 [] W a w) h0 ⟨?_, trivial⟩ ?_
  · intro a w (hI : SR _ _ _ _ a w); obtain rfl := hI.wp; go_simp; exact hI.s 2
  · intro a w (hI : SR _ _ _ _ a w); obtain rfl := hI.wp
    exact hQ a hI
theorem ck7 (n : Nat) (W : World)  (Q : Po) (a : Act) (h0 : SR [] 40 [] W a W)
    (hQ : ∀ a, SR [(2, ii 0)] 40 [] W a W → Q .normal a W) : (regOf 7 C12).wpIn Fence.wide n Try.prog Q a W := by
  simp only [regOf, C12, Try.f12, Option.getD, Nat.reduceBEq, Bool.false_eq_true, if_true, if_false]
  refine region_sq (fun k_ a w => match k_ with | 0 => SR [] 40 [] W a w | _ => SR [(2, ii 0)] 40 [] W a w) h0 ⟨?_, trivial⟩ ?_
  · intro a w (hI : SR _ _ _ _ a w); obtain rfl := hI.wp; go_simp; exact hI.s 2
  · intro a w (hI : SR _ _ _ _ a w); obtain rfl := hI.wp
    exact hQ a hI
noncomputable def C37 : Code := Try.f37.body.getD .skip
theorem cl0 (n : Nat) (W : World) (k v : Nat) (Q : Po) (a : Act) (h0 : SR [(0, .agg #[.int .u8 k, .int .u8 v])] 10 [] W a W)
    (hQ : ∀ a, SR [(1, .pointer (some ⟨W.heap.size, 0, none⟩))] 10 [] (W.alloc (.cells #[.int .u8 k, .int .u8 v] 32)) a (W.alloc (.cells #[.int .u8 k, .int .u8 v] 32)) → Q .normal a (W.alloc (.cells #[.int .u8 k, .int .u8 v] 32))) : (regOf 0 C37).wpIn Fence.wide n Try.prog Q a W := by
  simp only [regOf, C37, Try.f37, Option.getD, Nat.reduceBEq, Bool.false_eq_true, if_true, if_false]
  refine region_sq (fun k_ a w => match k_ with | 0 => SR [(0, .agg #[.int .u8 k, .int .u8 v])] 10 [] W a w | 1 => SR [(1, .pointer (some ⟨W.heap.size, 0, none⟩))] 10 [] (W.alloc (.cells #[.int .u8 k, .int .u8 v] 32)) a w | _ => SR [(1, .pointer (some ⟨W.heap.size, 0, none⟩))] 10 [] (W.alloc (.cells #[.int .u8 k, .int .u8 v] 32)) a w) h0 ⟨?_, ?_, trivial⟩ ?_
  · intro a w (hI : SR _ _ _ _ a w); have e0 := hI.g 0 rfl; obtain rfl := hI.wp; go_simp; exact hI.s 1
  · intro a w (hI : SR _ _ _ _ a w); obtain rfl := hI.wp; go_simp; exact hI.s 2
  · intro a w (hI : SR _ _ _ _ a w); obtain rfl := hI.wp
    exact hQ a hI
theorem cl1t (n : Nat) {G : World → Prop} (hS : Stable G) (S k v : Nat) (b : Bool) (k0 : CE G S 0 (.int .u8 k)) (k1 : CE G S 1 (.int .u8 v)) (h1 : CR G 36 #[.agg #[.int .u8 k, .int .u8 v]] (.bool true)) (h2 : CR G 43 #[.int .u8 k] (.bool b)) (Q : Po) (a : Act) (w : World) (h0 : SG [(1, pt S 0)] 10 G a w)
    (hQ : ∀ a w, SG [(2, .bool b)] 10 G a w → Q .normal a w) : (regOf 1 C37).wpIn Fence.wide n Try.prog Q a w := by
  simp only [regOf, C37, Try.f37, Option.getD, Nat.reduceBEq, Bool.false_eq_true, if_true, if_false]
  refine region_sq (fun k_ a w => match k_ with | 0 => SG [(1, pt S 0)] 10 G a w | 1 => SG [(1, pt S 0), (3, .agg #[.int .u8 k, .int .u8 v])] 10 G a w | 2 => SG [(1, pt S 0), (4, .bool true)] 10 G a w | 3 => SG [(1, pt S 0), (5, .bool true)] 10 G a w | 4 => SG [(5, .bool true), (6, pt S 0)] 10 G a w | 5 => SG [(5, .bool true), (7, .int .u8 k)] 10 G a w | 6 => SG [(5, .bool true), (8, .bool b)] 10 G a w | 7 => SG [(9, .bool b)] 10 G a w | _ => SG [(2, .bool b)] 10 G a w) h0 ⟨?_, ?_, ?_, ?_, ?_, ?_, ?_, ?_, trivial⟩ ?_
  · intro a w (hI : SG _ _ G a w); have e1 := hI.g 1 rfl; have cc0 := k0 w hI.wp; have cc1 := k1 w hI.wp; go_simp; exact hI.q 3
  · intro a w (hI : SG _ _ G a w); have e3 := hI.g 3 rfl; go_simp
    refine ⟨trivial, fun h => (by cases h), (h1 (n - 1) w hI.wp).mono ?_⟩
    rintro e w' ⟨rfl, hb2⟩
    exact hI.put (d := 4) (by decide) (by simp) (hS _ _ hI.wp hb2)
  · intro a w (hI : SG _ _ G a w); have e4 := hI.g 4 rfl; go_simp; exact hI.q 5
  · intro a w (hI : SG _ _ G a w); have e1 := hI.g 1 rfl; have e5 := hI.g 5 rfl; have f5 := slot_bool e5; go_simp; exact hI.q 6
  · intro a w (hI : SG _ _ G a w); have e6 := hI.g 6 rfl; have e5 := hI.g 5 rfl; have f5 := slot_bool e5; have cc0 := k0 w hI.wp; go_simp; exact hI.q 7
  · intro a w (hI : SG _ _ G a w); have e7 := hI.g 7 rfl; have e5 := hI.g 5 rfl; have f5 := slot_bool e5; go_simp
    refine ⟨trivial, fun h => (by cases h), (h2 (n - 1) w hI.wp).mono ?_⟩
    rintro e w' ⟨rfl, hb2⟩
    exact hI.put (d := 8) (by decide) (by simp) (hS _ _ hI.wp hb2)
  · intro a w (hI : SG _ _ G a w); have e5 := hI.g 5 rfl; have e8 := hI.g 8 rfl; go_simp; exact hI.q 9
  · intro a w (hI : SG _ _ G a w); have e9 := hI.g 9 rfl; go_simp; exact hI.q 2
  · intro a w (hI : SG _ _ G a w)
    exact hQ a w hI
theorem cl1f (n : Nat) {G : World → Prop} (hS : Stable G) (S k v : Nat) (k0 : CE G S 0 (.int .u8 k)) (k1 : CE G S 1 (.int .u8 v)) (h1 : CR G 36 #[.agg #[.int .u8 k, .int .u8 v]] (.bool false)) (Q : Po) (a : Act) (w : World) (h0 : SG [(1, pt S 0)] 10 G a w)
    (hQ : ∀ a w, SG [(2, .bool false)] 10 G a w → Q .normal a w) : (regOf 1 C37).wpIn Fence.wide n Try.prog Q a w := by
  simp only [regOf, C37, Try.f37, Option.getD, Nat.reduceBEq, Bool.false_eq_true, if_true, if_false]
  refine region_sq (fun k_ a w => match k_ with | 0 => SG [(1, pt S 0)] 10 G a w | 1 => SG [(3, .agg #[.int .u8 k, .int .u8 v])] 10 G a w | 2 => SG [(4, .bool false)] 10 G a w | 3 => SG [(5, .bool false)] 10 G a w | 4 => SG [(5, .bool false)] 10 G a w | 5 => SG [(5, .bool false)] 10 G a w | 6 => SG [(5, .bool false)] 10 G a w | 7 => SG [(9, .bool false)] 10 G a w | _ => SG [(2, .bool false)] 10 G a w) h0 ⟨?_, ?_, ?_, ?_, ?_, ?_, ?_, ?_, trivial⟩ ?_
  · intro a w (hI : SG _ _ G a w); have e1 := hI.g 1 rfl; have cc0 := k0 w hI.wp; have cc1 := k1 w hI.wp; go_simp; exact hI.q 3
  · intro a w (hI : SG _ _ G a w); have e3 := hI.g 3 rfl; go_simp
    refine ⟨trivial, fun h => (by cases h), (h1 (n - 1) w hI.wp).mono ?_⟩
    rintro e w' ⟨rfl, hb2⟩
    exact hI.put (d := 4) (by decide) (by simp) (hS _ _ hI.wp hb2)
  · intro a w (hI : SG _ _ G a w); have e4 := hI.g 4 rfl; go_simp; exact hI.q 5
  · intro a w (hI : SG _ _ G a w); have e5 := hI.g 5 rfl; have f5 := slot_bool e5; go_simp; exact hI.q 6
  · intro a w (hI : SG _ _ G a w); have e5 := hI.g 5 rfl; have f5 := slot_bool e5; go_simp; exact hI.q 7
  · intro a w (hI : SG _ _ G a w); have e5 := hI.g 5 rfl; have f5 := slot_bool e5; go_simp
    refine ⟨trivial, ?_⟩
    exact hI.q 8
  · intro a w (hI : SG _ _ G a w); have e5 := hI.g 5 rfl; go_simp; exact hI.q 9
  · intro a w (hI : SG _ _ G a w); have e9 := hI.g 9 rfl; go_simp; exact hI.q 2
  · intro a w (hI : SG _ _ G a w)
    exact hQ a w hI
noncomputable def C38 : Code := Try.f38.body.getD .skip
theorem fr0 (n : Nat) (W : World) (X Y Z : Int) (cv : Value) (g4 N x y z : Nat) (Q : Po) (a : Act) (h0 : SR [(0, .agg #[(ii X), (ii Y), (ii Z), cv]), (1, sl g4 N N), (2, ii x), (3, ii y), (4, ii z)] 108 [] W a W)
    (hQ : ∀ a, SR [(1, sl g4 N N), (2, ii x), (3, ii y), (4, ii z), (5, .pointer (some ⟨W.heap.size, 0, none⟩))] 108 [] (W.alloc (.cells #[(ii X), (ii Y), (ii Z), cv] 24)) a (W.alloc (.cells #[(ii X), (ii Y), (ii Z), cv] 24)) → Q .normal a (W.alloc (.cells #[(ii X), (ii Y), (ii Z), cv] 24))) : (regOf 0 C38).wpIn Fence.wide n Try.prog Q a W := by
  simp only [regOf, C38, Try.f38, Option.getD, Nat.reduceBEq, Bool.false_eq_true, if_true, if_false]
  refine region_sq (fun k_ a w => match k_ with | 0 => SR [(0, .agg #[(ii X), (ii Y), (ii Z), cv]), (1, sl g4 N N), (2, ii x), (3, ii y), (4, ii z)] 108 [] W a w | 1 => SR [(1, sl g4 N N), (2, ii x), (3, ii y), (4, ii z), (5, .pointer (some ⟨W.heap.size, 0, none⟩))] 108 [] (W.alloc (.cells #[(ii X), (ii Y), (ii Z), cv] 24)) a w | _ => SR [(1, sl g4 N N), (2, ii x), (3, ii y), (4, ii z), (5, .pointer (some ⟨W.heap.size, 0, none⟩))] 108 [] (W.alloc (.cells #[(ii X), (ii Y), (ii Z), cv] 24)) a w) h0 ⟨?_, ?_, trivial⟩ ?_
  · intro a w (hI : SR _ _ _ _ a w); have e0 := hI.g 0 rfl; obtain rfl := hI.wp; go_simp; exact hI.s 5
  · intro a w (hI : SR _ _ _ _ a w); obtain rfl := hI.wp; go_simp; exact hI.s 10
  · intro a w (hI : SR _ _ _ _ a w); obtain rfl := hI.wp
    exact hQ a hI
abbrev fA (B g4 N x y z : Nat) : List (Nat × Value) := [(1, sl g4 N N), (2, ii x), (3, ii y), (4, ii z), (5, pt B 0)]
theorem fr1 (n : Nat) (W : World) (B g4 N x y z : Nat)  (Q : Po) (a : Act) (h0 : SR (fA B g4 N x y z) 108 [] W a W)
    (hQ : ∀ a, SR (fA B g4 N x y z ++ [(11, ii 0)]) 108 [] W a W → Q .normal a W) : (regOf 1 C38).wpIn Fence.wide n Try.prog Q a W := by
  simp only [regOf, C38, Try.f38, Option.getD, Nat.reduceBEq, Bool.false_eq_true, if_true, if_false]
  refine region_sq (fun k_ a w => match k_ with | 0 => SR (fA B g4 N x y z) 108 [] W a w | _ => SR (fA B g4 N x y z ++ [(11, ii 0)]) 108 [] W a w) h0 ⟨?_, trivial⟩ ?_
  · intro a w (hI : SR _ _ _ _ a w); obtain rfl := hI.wp; go_simp; exact hI.s 11
  · intro a w (hI : SR _ _ _ _ a w); obtain rfl := hI.wp
    exact hQ a hI
theorem fr2 (n : Nat) (W : World) (B g4 N x y z : Nat) (X Z p1 p2 p3 i : Nat) (h1 : IntKind.i64.wrap ((y : Int) * Z) = (p1 : Int)) (h2 : IntKind.i64.wrap ((p1 : Int) + z) = (p2 : Int)) (h3 : IntKind.i64.wrap ((p2 : Int) * X) = (p3 : Int)) (h4 : IntKind.i64.wrap ((p3 : Int) + x) = (i : Int)) (c2_ : W.cell? ⟨B, 2, none⟩ = some (ii Z)) (c0 : W.cell? ⟨B, 0, none⟩ = some (ii X)) (Q : Po) (a : Act) (h0 : SR (fA B g4 N x y z ++ [(11, ii 0)]) 108 [] W a W)
    (hQ : ∀ a, SR (fA B g4 N x y z ++ [(11, ii 0), (12, ii i)]) 108 [] W a W → Q .normal a W) : (regOf 2 C38).wpIn Fence.wide n Try.prog Q a W := by
  simp only [regOf, C38, Try.f38, Option.getD, Nat.reduceBEq, Bool.false_eq_true, if_true, if_false]
  refine region_sq (fun k_ a w => match k_ with | 0 => SR (fA B g4 N x y z ++ [(11, ii 0)]) 108 [] W a w | 1 => SR (fA B g4 N x y z ++ [(11, ii 0), (13, ii y)]) 108 [] W a w | 2 => SR (fA B g4 N x y z ++ [(11, ii 0), (13, ii y), (14, pt B 2)]) 108 [] W a w | 3 => SR (fA B g4 N x y z ++ [(11, ii 0), (13, ii y), (15, ii Z)]) 108 [] W a w | 4 => SR (fA B g4 N x y z ++ [(11, ii 0), (16, ii p1)]) 108 [] W a w | 5 => SR (fA B g4 N x y z ++ [(11, ii 0), (16, ii p1), (17, ii z)]) 108 [] W a w | 6 => SR (fA B g4 N x y z ++ [(11, ii 0), (18, ii p2)]) 108 [] W a w | 7 => SR (fA B g4 N x y z ++ [(11, ii 0), (18, ii p2), (19, pt B 0)]) 108 [] W a w | 8 => SR (fA B g4 N x y z ++ [(11, ii 0), (18, ii p2), (20, ii X)]) 108 [] W a w | 9 => SR (fA B g4 N x y z ++ [(11, ii 0), (21, ii p3)]) 108 [] W a w | 10 => SR (fA B g4 N x y z ++ [(11, ii 0), (21, ii p3), (22, ii x)]) 108 [] W a w | 11 => SR (fA B g4 N x y z ++ [(11, ii 0), (23, ii i)]) 108 [] W a w | _ => SR (fA B g4 N x y z ++ [(11, ii 0), (12, ii i)]) 108 [] W a w) h0 ⟨?_, ?_, ?_, ?_, ?_, ?_, ?_, ?_, ?_, ?_, ?_, ?_, trivial⟩ ?_
  · intro a w (hI : SR _ _ _ _ a w); have e3 := hI.g 3 rfl; obtain rfl := hI.wp; go_simp; exact hI.s 13
  · intro a w (hI : SR _ _ _ _ a w); have e5 := hI.g 5 rfl; obtain rfl := hI.wp; go_simp; exact hI.s 14
  · intro a w (hI : SR _ _ _ _ a w); have e14 := hI.g 14 rfl; obtain rfl := hI.wp; go_simp; exact hI.s 15
  · intro a w (hI : SR _ _ _ _ a w); have e13 := hI.g 13 rfl; have e15 := hI.g 15 rfl; obtain rfl := hI.wp; go_simp; exact hI.s 16
  · intro a w (hI : SR _ _ _ _ a w); have e4 := hI.g 4 rfl; obtain rfl := hI.wp; go_simp; exact hI.s 17
  · intro a w (hI : SR _ _ _ _ a w); have e16 := hI.g 16 rfl; have e17 := hI.g 17 rfl; obtain rfl := hI.wp; go_simp; exact hI.s 18
  · intro a w (hI : SR _ _ _ _ a w); have e5 := hI.g 5 rfl; obtain rfl := hI.wp; go_simp; exact hI.s 19
  · intro a w (hI : SR _ _ _ _ a w); have e19 := hI.g 19 rfl; obtain rfl := hI.wp; go_simp; exact hI.s 20
  · intro a w (hI : SR _ _ _ _ a w); have e18 := hI.g 18 rfl; have e20 := hI.g 20 rfl; obtain rfl := hI.wp; go_simp; exact hI.s 21
  · intro a w (hI : SR _ _ _ _ a w); have e2 := hI.g 2 rfl; obtain rfl := hI.wp; go_simp; exact hI.s 22
  · intro a w (hI : SR _ _ _ _ a w); have e21 := hI.g 21 rfl; have e22 := hI.g 22 rfl; obtain rfl := hI.wp; go_simp; exact hI.s 23
  · intro a w (hI : SR _ _ _ _ a w); have e23 := hI.g 23 rfl; obtain rfl := hI.wp; go_simp; exact hI.s 12
  · intro a w (hI : SR _ _ _ _ a w); obtain rfl := hI.wp
    exact hQ a hI
theorem fr3 (n : Nat) (W : World) (B g4 N x y z : Nat) (b i : Nat)  (Q : Po) (a : Act) (h0 : SR (fA B g4 N x y z ++ [(11, ii b), (12, ii i)]) 108 [] W a W)
    (hQ : ∀ a, SR (fA B g4 N x y z ++ [(11, ii b), (12, ii i), (25, .bool (decide (0 < x)))]) 108 [] W a W → Q .normal a W) : (regOf 3 C38).wpIn Fence.wide n Try.prog Q a W := by
  simp only [regOf, C38, Try.f38, Option.getD, Nat.reduceBEq, Bool.false_eq_true, if_true, if_false]
  refine region_sq (fun k_ a w => match k_ with | 0 => SR (fA B g4 N x y z ++ [(11, ii b), (12, ii i)]) 108 [] W a w | 1 => SR (fA B g4 N x y z ++ [(11, ii b), (12, ii i), (24, ii x)]) 108 [] W a w | _ => SR (fA B g4 N x y z ++ [(11, ii b), (12, ii i), (25, .bool (decide (0 < x)))]) 108 [] W a w) h0 ⟨?_, ?_, trivial⟩ ?_
  · intro a w (hI : SR _ _ _ _ a w); have e2 := hI.g 2 rfl; obtain rfl := hI.wp; go_simp; exact hI.s 24
  · intro a w (hI : SR _ _ _ _ a w); have e24 := hI.g 24 rfl; obtain rfl := hI.wp; go_simp; exact hI.s 25
  · intro a w (hI : SR _ _ _ _ a w); obtain rfl := hI.wp
    exact hQ a hI
theorem fr5 (n : Nat) (W : World) (B g4 N x y z : Nat) (b i : Nat) (X : Nat) (h : x < 9000000000) (c0 : W.cell? ⟨B, 0, none⟩ = some (ii X)) (Q : Po) (a : Act) (h0 : SR (fA B g4 N x y z ++ [(11, ii b), (12, ii i)]) 108 [] W a W)
    (hQ : ∀ a, SR (fA B g4 N x y z ++ [(11, ii b), (12, ii i), (38, .bool (decide ((x : Int) + 1 < X)))]) 108 [] W a W → Q .normal a W) : (regOf 5 C38).wpIn Fence.wide n Try.prog Q a W := by
  simp only [regOf, C38, Try.f38, Option.getD, Nat.reduceBEq, Bool.false_eq_true, if_true, if_false]
  refine region_sq (fun k_ a w => match k_ with | 0 => SR (fA B g4 N x y z ++ [(11, ii b), (12, ii i)]) 108 [] W a w | 1 => SR (fA B g4 N x y z ++ [(11, ii b), (12, ii i), (34, ii x)]) 108 [] W a w | 2 => SR (fA B g4 N x y z ++ [(11, ii b), (12, ii i), (35, (ii ((x : Int) + 1)))]) 108 [] W a w | 3 => SR (fA B g4 N x y z ++ [(11, ii b), (12, ii i), (35, (ii ((x : Int) + 1))), (36, pt B 0)]) 108 [] W a w | 4 => SR (fA B g4 N x y z ++ [(11, ii b), (12, ii i), (35, (ii ((x : Int) + 1))), (37, ii X)]) 108 [] W a w | _ => SR (fA B g4 N x y z ++ [(11, ii b), (12, ii i), (38, .bool (decide ((x : Int) + 1 < X)))]) 108 [] W a w) h0 ⟨?_, ?_, ?_, ?_, ?_, trivial⟩ ?_
  · intro a w (hI : SR _ _ _ _ a w); have e2 := hI.g 2 rfl; obtain rfl := hI.wp; go_simp; exact hI.s 34
  · intro a w (hI : SR _ _ _ _ a w); have e34 := hI.g 34 rfl; obtain rfl := hI.wp
    have hw1 : IntKind.i64.wrap ((x : Int) + 1) = (x : Int) + 1 := IntWalk.i64_in _ (by omega)
    go_simp; exact hI.s 35
  · intro a w (hI : SR _ _ _ _ a w); have e5 := hI.g 5 rfl; obtain rfl := hI.wp; go_simp; exact hI.s 36
  · intro a w (hI : SR _ _ _ _ a w); have e36 := hI.g 36 rfl; obtain rfl := hI.wp; go_simp; exact hI.s 37
  · intro a w (hI : SR _ _ _ _ a w); have e35 := hI.g 35 rfl; have e37 := hI.g 37 rfl; obtain rfl := hI.wp; go_simp; exact hI.s 38
  · intro a w (hI : SR _ _ _ _ a w); obtain rfl := hI.wp
    exact hQ a hI
theorem fr7 (n : Nat) (W : World) (B g4 N x y z : Nat) (b i : Nat)  (Q : Po) (a : Act) (h0 : SR (fA B g4 N x y z ++ [(11, ii b), (12, ii i)]) 108 [] W a W)
    (hQ : ∀ a, SR (fA B g4 N x y z ++ [(11, ii b), (12, ii i), (48, .bool (decide (0 < z)))]) 108 [] W a W → Q .normal a W) : (regOf 7 C38).wpIn Fence.wide n Try.prog Q a W := by
  simp only [regOf, C38, Try.f38, Option.getD, Nat.reduceBEq, Bool.false_eq_true, if_true, if_false]
  refine region_sq (fun k_ a w => match k_ with | 0 => SR (fA B g4 N x y z ++ [(11, ii b), (12, ii i)]) 108 [] W a w | 1 => SR (fA B g4 N x y z ++ [(11, ii b), (12, ii i), (47, ii z)]) 108 [] W a w | _ => SR (fA B g4 N x y z ++ [(11, ii b), (12, ii i), (48, .bool (decide (0 < z)))]) 108 [] W a w) h0 ⟨?_, ?_, trivial⟩ ?_
  · intro a w (hI : SR _ _ _ _ a w); have e4 := hI.g 4 rfl; obtain rfl := hI.wp; go_simp; exact hI.s 47
  · intro a w (hI : SR _ _ _ _ a w); have e47 := hI.g 47 rfl; obtain rfl := hI.wp; go_simp; exact hI.s 48
  · intro a w (hI : SR _ _ _ _ a w); obtain rfl := hI.wp
    exact hQ a hI
theorem fr9 (n : Nat) (W : World) (B g4 N x y z : Nat) (b i : Nat) (Z : Nat) (h : z < 9000000000) (c2_ : W.cell? ⟨B, 2, none⟩ = some (ii Z)) (Q : Po) (a : Act) (h0 : SR (fA B g4 N x y z ++ [(11, ii b), (12, ii i)]) 108 [] W a W)
    (hQ : ∀ a, SR (fA B g4 N x y z ++ [(11, ii b), (12, ii i), (63, .bool (decide ((z : Int) + 1 < Z)))]) 108 [] W a W → Q .normal a W) : (regOf 9 C38).wpIn Fence.wide n Try.prog Q a W := by
  simp only [regOf, C38, Try.f38, Option.getD, Nat.reduceBEq, Bool.false_eq_true, if_true, if_false]
  refine region_sq (fun k_ a w => match k_ with | 0 => SR (fA B g4 N x y z ++ [(11, ii b), (12, ii i)]) 108 [] W a w | 1 => SR (fA B g4 N x y z ++ [(11, ii b), (12, ii i), (59, ii z)]) 108 [] W a w | 2 => SR (fA B g4 N x y z ++ [(11, ii b), (12, ii i), (60, (ii ((z : Int) + 1)))]) 108 [] W a w | 3 => SR (fA B g4 N x y z ++ [(11, ii b), (12, ii i), (60, (ii ((z : Int) + 1))), (61, pt B 2)]) 108 [] W a w | 4 => SR (fA B g4 N x y z ++ [(11, ii b), (12, ii i), (60, (ii ((z : Int) + 1))), (62, ii Z)]) 108 [] W a w | _ => SR (fA B g4 N x y z ++ [(11, ii b), (12, ii i), (63, .bool (decide ((z : Int) + 1 < Z)))]) 108 [] W a w) h0 ⟨?_, ?_, ?_, ?_, ?_, trivial⟩ ?_
  · intro a w (hI : SR _ _ _ _ a w); have e4 := hI.g 4 rfl; obtain rfl := hI.wp; go_simp; exact hI.s 59
  · intro a w (hI : SR _ _ _ _ a w); have e59 := hI.g 59 rfl; obtain rfl := hI.wp
    have hw1 : IntKind.i64.wrap ((z : Int) + 1) = (z : Int) + 1 := IntWalk.i64_in _ (by omega)
    go_simp; exact hI.s 60
  · intro a w (hI : SR _ _ _ _ a w); have e5 := hI.g 5 rfl; obtain rfl := hI.wp; go_simp; exact hI.s 61
  · intro a w (hI : SR _ _ _ _ a w); have e61 := hI.g 61 rfl; obtain rfl := hI.wp; go_simp; exact hI.s 62
  · intro a w (hI : SR _ _ _ _ a w); have e60 := hI.g 60 rfl; have e62 := hI.g 62 rfl; obtain rfl := hI.wp; go_simp; exact hI.s 63
  · intro a w (hI : SR _ _ _ _ a w); obtain rfl := hI.wp
    exact hQ a hI
theorem fr11 (n : Nat) (W : World) (B g4 N x y z : Nat) (b i : Nat)  (Q : Po) (a : Act) (h0 : SR (fA B g4 N x y z ++ [(11, ii b), (12, ii i)]) 108 [] W a W)
    (hQ : ∀ a, SR (fA B g4 N x y z ++ [(11, ii b), (12, ii i), (75, .bool (decide (0 < y)))]) 108 [] W a W → Q .normal a W) : (regOf 11 C38).wpIn Fence.wide n Try.prog Q a W := by
  simp only [regOf, C38, Try.f38, Option.getD, Nat.reduceBEq, Bool.false_eq_true, if_true, if_false]
  refine region_sq (fun k_ a w => match k_ with | 0 => SR (fA B g4 N x y z ++ [(11, ii b), (12, ii i)]) 108 [] W a w | 1 => SR (fA B g4 N x y z ++ [(11, ii b), (12, ii i), (74, ii y)]) 108 [] W a w | _ => SR (fA B g4 N x y z ++ [(11, ii b), (12, ii i), (75, .bool (decide (0 < y)))]) 108 [] W a w) h0 ⟨?_, ?_, trivial⟩ ?_
  · intro a w (hI : SR _ _ _ _ a w); have e3 := hI.g 3 rfl; obtain rfl := hI.wp; go_simp; exact hI.s 74
  · intro a w (hI : SR _ _ _ _ a w); have e74 := hI.g 74 rfl; obtain rfl := hI.wp; go_simp; exact hI.s 75
  · intro a w (hI : SR _ _ _ _ a w); obtain rfl := hI.wp
    exact hQ a hI
theorem fr13 (n : Nat) (W : World) (B g4 N x y z : Nat) (b i : Nat) (Y : Nat) (h : y < 9000000000) (c1 : W.cell? ⟨B, 1, none⟩ = some (ii Y)) (Q : Po) (a : Act) (h0 : SR (fA B g4 N x y z ++ [(11, ii b), (12, ii i)]) 108 [] W a W)
    (hQ : ∀ a, SR (fA B g4 N x y z ++ [(11, ii b), (12, ii i), (93, .bool (decide ((y : Int) + 1 < Y)))]) 108 [] W a W → Q .normal a W) : (regOf 13 C38).wpIn Fence.wide n Try.prog Q a W := by
  simp only [regOf, C38, Try.f38, Option.getD, Nat.reduceBEq, Bool.false_eq_true, if_true, if_false]
  refine region_sq (fun k_ a w => match k_ with | 0 => SR (fA B g4 N x y z ++ [(11, ii b), (12, ii i)]) 108 [] W a w | 1 => SR (fA B g4 N x y z ++ [(11, ii b), (12, ii i), (89, ii y)]) 108 [] W a w | 2 => SR (fA B g4 N x y z ++ [(11, ii b), (12, ii i), (90, (ii ((y : Int) + 1)))]) 108 [] W a w | 3 => SR (fA B g4 N x y z ++ [(11, ii b), (12, ii i), (90, (ii ((y : Int) + 1))), (91, pt B 1)]) 108 [] W a w | 4 => SR (fA B g4 N x y z ++ [(11, ii b), (12, ii i), (90, (ii ((y : Int) + 1))), (92, ii Y)]) 108 [] W a w | _ => SR (fA B g4 N x y z ++ [(11, ii b), (12, ii i), (93, .bool (decide ((y : Int) + 1 < Y)))]) 108 [] W a w) h0 ⟨?_, ?_, ?_, ?_, ?_, trivial⟩ ?_
  · intro a w (hI : SR _ _ _ _ a w); have e3 := hI.g 3 rfl; obtain rfl := hI.wp; go_simp; exact hI.s 89
  · intro a w (hI : SR _ _ _ _ a w); have e89 := hI.g 89 rfl; obtain rfl := hI.wp
    have hw1 : IntKind.i64.wrap ((y : Int) + 1) = (y : Int) + 1 := IntWalk.i64_in _ (by omega)
    go_simp; exact hI.s 90
  · intro a w (hI : SR _ _ _ _ a w); have e5 := hI.g 5 rfl; obtain rfl := hI.wp; go_simp; exact hI.s 91
  · intro a w (hI : SR _ _ _ _ a w); have e91 := hI.g 91 rfl; obtain rfl := hI.wp; go_simp; exact hI.s 92
  · intro a w (hI : SR _ _ _ _ a w); have e90 := hI.g 90 rfl; have e92 := hI.g 92 rfl; obtain rfl := hI.wp; go_simp; exact hI.s 93
  · intro a w (hI : SR _ _ _ _ a w); obtain rfl := hI.wp
    exact hQ a hI
theorem fr4 (n : Nat) (W : World) (B g4 N x y z : Nat) (b i : Nat) (j u b' : Nat) (hj : j < N) (hu : IntKind.i64.wrap ((u : Int) - 1) = (u : Int) - 1) (hb : (if (b : Int) < (u : Int) - 1 then (u : Int) - 1 else b) = (b' : Int)) (hs : IntKind.i64.wrap ((i : Int) - 1) = (j : Int)) (cu : W.cell? ⟨g4, j, none⟩ = some (ii u)) (Q : Po) (a : Act) (h0 : SR (fA B g4 N x y z ++ [(11, ii b), (12, ii i)]) 108 [] W a W)
    (hQ : ∀ a, SR (fA B g4 N x y z ++ [(11, ii b'), (12, ii i)]) 108 [] W a W → Q .normal a W) : (regOf 4 C38).wpIn Fence.wide n Try.prog Q a W := by
  simp only [regOf, C38, Try.f38, Option.getD, Nat.reduceBEq, Bool.false_eq_true, if_true, if_false]
  refine region_sq (fun k_ a w => match k_ with | 0 => SR (fA B g4 N x y z ++ [(11, ii b), (12, ii i)]) 108 [] W a w | 1 => SR (fA B g4 N x y z ++ [(12, ii i), (26, ii b)]) 108 [] W a w | 2 => SR (fA B g4 N x y z ++ [(12, ii i), (26, ii b), (27, sl g4 N N)]) 108 [] W a w | 3 => SR (fA B g4 N x y z ++ [(12, ii i), (26, ii b), (27, sl g4 N N), (28, ii i)]) 108 [] W a w | 4 => SR (fA B g4 N x y z ++ [(12, ii i), (26, ii b), (27, sl g4 N N), (29, ii j)]) 108 [] W a w | 5 => SR (fA B g4 N x y z ++ [(12, ii i), (26, ii b), (30, pt g4 j)]) 108 [] W a w | 6 => SR (fA B g4 N x y z ++ [(12, ii i), (26, ii b), (31, ii u)]) 108 [] W a w | 7 => SR (fA B g4 N x y z ++ [(12, ii i), (26, ii b), (32, (ii ((u : Int) - 1)))]) 108 [] W a w | 8 => SR (fA B g4 N x y z ++ [(12, ii i), (33, ii b')]) 108 [] W a w | _ => SR (fA B g4 N x y z ++ [(12, ii i), (11, ii b')]) 108 [] W a w) h0 ⟨?_, ?_, ?_, ?_, ?_, ?_, ?_, ?_, ?_, trivial⟩ ?_
  · intro a w (hI : SR _ _ _ _ a w); have e11 := hI.g 11 rfl; obtain rfl := hI.wp; go_simp; exact hI.s 26
  · intro a w (hI : SR _ _ _ _ a w); have e1 := hI.g 1 rfl; obtain rfl := hI.wp; go_simp; exact hI.s 27
  · intro a w (hI : SR _ _ _ _ a w); have e12 := hI.g 12 rfl; obtain rfl := hI.wp; go_simp; exact hI.s 28
  · intro a w (hI : SR _ _ _ _ a w); have e28 := hI.g 28 rfl; obtain rfl := hI.wp; go_simp; exact hI.s 29
  · intro a w (hI : SR _ _ _ _ a w); have e27 := hI.g 27 rfl; have e29 := hI.g 29 rfl; obtain rfl := hI.wp
    have q1_4 : (0 : Int) ≤ j := by omega
    have q2_4 : (j : Int) < N := by omega
    go_simp; exact hI.s 30
  · intro a w (hI : SR _ _ _ _ a w); have e30 := hI.g 30 rfl; obtain rfl := hI.wp; go_simp; exact hI.s 31
  · intro a w (hI : SR _ _ _ _ a w); have e31 := hI.g 31 rfl; obtain rfl := hI.wp; go_simp; exact hI.s 32
  · intro a w (hI : SR _ _ _ _ a w); have e26 := hI.g 26 rfl; have e32 := hI.g 32 rfl; obtain rfl := hI.wp; go_simp; exact hI.s 33
  · intro a w (hI : SR _ _ _ _ a w); have e33 := hI.g 33 rfl; obtain rfl := hI.wp; go_simp; exact hI.s 11
  · intro a w (hI : SR _ _ _ _ a w); obtain rfl := hI.wp
    exact hQ a (hI.sub (by intro p hp; simp only [List.mem_append, List.mem_cons, List.not_mem_nil, or_false] at hp ⊢; rcases hp with hp | hp | hp <;> simp [hp]))
theorem fr6 (n : Nat) (W : World) (B g4 N x y z : Nat) (b i : Nat) (j u b' : Nat) (hj : j < N) (hu : IntKind.i64.wrap ((u : Int) - 1) = (u : Int) - 1) (hb : (if (b : Int) < (u : Int) - 1 then (u : Int) - 1 else b) = (b' : Int)) (hs : IntKind.i64.wrap ((i : Int) + 1) = (j : Int)) (cu : W.cell? ⟨g4, j, none⟩ = some (ii u)) (Q : Po) (a : Act) (h0 : SR (fA B g4 N x y z ++ [(11, ii b), (12, ii i)]) 108 [] W a W)
    (hQ : ∀ a, SR (fA B g4 N x y z ++ [(11, ii b'), (12, ii i)]) 108 [] W a W → Q .normal a W) : (regOf 6 C38).wpIn Fence.wide n Try.prog Q a W := by
  simp only [regOf, C38, Try.f38, Option.getD, Nat.reduceBEq, Bool.false_eq_true, if_true, if_false]
  refine region_sq (fun k_ a w => match k_ with | 0 => SR (fA B g4 N x y z ++ [(11, ii b), (12, ii i)]) 108 [] W a w | 1 => SR (fA B g4 N x y z ++ [(12, ii i), (39, ii b)]) 108 [] W a w | 2 => SR (fA B g4 N x y z ++ [(12, ii i), (39, ii b), (40, sl g4 N N)]) 108 [] W a w | 3 => SR (fA B g4 N x y z ++ [(12, ii i), (39, ii b), (40, sl g4 N N), (41, ii i)]) 108 [] W a w | 4 => SR (fA B g4 N x y z ++ [(12, ii i), (39, ii b), (40, sl g4 N N), (42, ii j)]) 108 [] W a w | 5 => SR (fA B g4 N x y z ++ [(12, ii i), (39, ii b), (43, pt g4 j)]) 108 [] W a w | 6 => SR (fA B g4 N x y z ++ [(12, ii i), (39, ii b), (44, ii u)]) 108 [] W a w | 7 => SR (fA B g4 N x y z ++ [(12, ii i), (39, ii b), (45, (ii ((u : Int) - 1)))]) 108 [] W a w | 8 => SR (fA B g4 N x y z ++ [(12, ii i), (46, ii b')]) 108 [] W a w | _ => SR (fA B g4 N x y z ++ [(12, ii i), (11, ii b')]) 108 [] W a w) h0 ⟨?_, ?_, ?_, ?_, ?_, ?_, ?_, ?_, ?_, trivial⟩ ?_
  · intro a w (hI : SR _ _ _ _ a w); have e11 := hI.g 11 rfl; obtain rfl := hI.wp; go_simp; exact hI.s 39
  · intro a w (hI : SR _ _ _ _ a w); have e1 := hI.g 1 rfl; obtain rfl := hI.wp; go_simp; exact hI.s 40
  · intro a w (hI : SR _ _ _ _ a w); have e12 := hI.g 12 rfl; obtain rfl := hI.wp; go_simp; exact hI.s 41
  · intro a w (hI : SR _ _ _ _ a w); have e41 := hI.g 41 rfl; obtain rfl := hI.wp; go_simp; exact hI.s 42
  · intro a w (hI : SR _ _ _ _ a w); have e40 := hI.g 40 rfl; have e42 := hI.g 42 rfl; obtain rfl := hI.wp
    have q1_4 : (0 : Int) ≤ j := by omega
    have q2_4 : (j : Int) < N := by omega
    go_simp; exact hI.s 43
  · intro a w (hI : SR _ _ _ _ a w); have e43 := hI.g 43 rfl; obtain rfl := hI.wp; go_simp; exact hI.s 44
  · intro a w (hI : SR _ _ _ _ a w); have e44 := hI.g 44 rfl; obtain rfl := hI.wp; go_simp; exact hI.s 45
  · intro a w (hI : SR _ _ _ _ a w); have e39 := hI.g 39 rfl; have e45 := hI.g 45 rfl; obtain rfl := hI.wp; go_simp; exact hI.s 46
  · intro a w (hI : SR _ _ _ _ a w); have e46 := hI.g 46 rfl; obtain rfl := hI.wp; go_simp; exact hI.s 11
  · intro a w (hI : SR _ _ _ _ a w); obtain rfl := hI.wp
    exact hQ a (hI.sub (by intro p hp; simp only [List.mem_append, List.mem_cons, List.not_mem_nil, or_false] at hp ⊢; rcases hp with hp | hp | hp <;> simp [hp]))
theorem fr8 (n : Nat) (W : World) (B g4 N x y z : Nat) (b i : Nat) (X : Nat) (j u b' : Nat) (hj : j < N) (hu : IntKind.i64.wrap ((u : Int) - 1) = (u : Int) - 1) (hb : (if (b : Int) < (u : Int) - 1 then (u : Int) - 1 else b) = (b' : Int)) (hs : IntKind.i64.wrap ((i : Int) - X) = (j : Int)) (c0 : W.cell? ⟨B, 0, none⟩ = some (ii X)) (cu : W.cell? ⟨g4, j, none⟩ = some (ii u)) (Q : Po) (a : Act) (h0 : SR (fA B g4 N x y z ++ [(11, ii b), (12, ii i)]) 108 [] W a W)
    (hQ : ∀ a, SR (fA B g4 N x y z ++ [(11, ii b'), (12, ii i)]) 108 [] W a W → Q .normal a W) : (regOf 8 C38).wpIn Fence.wide n Try.prog Q a W := by
  simp only [regOf, C38, Try.f38, Option.getD, Nat.reduceBEq, Bool.false_eq_true, if_true, if_false]
  refine region_sq (fun k_ a w => match k_ with | 0 => SR (fA B g4 N x y z ++ [(11, ii b), (12, ii i)]) 108 [] W a w | 1 => SR (fA B g4 N x y z ++ [(12, ii i), (49, ii b)]) 108 [] W a w | 2 => SR (fA B g4 N x y z ++ [(12, ii i), (49, ii b), (50, sl g4 N N)]) 108 [] W a w | 3 => SR (fA B g4 N x y z ++ [(12, ii i), (49, ii b), (50, sl g4 N N), (51, ii i)]) 108 [] W a w | 4 => SR (fA B g4 N x y z ++ [(12, ii i), (49, ii b), (50, sl g4 N N), (51, ii i), (52, pt B 0)]) 108 [] W a w | 5 => SR (fA B g4 N x y z ++ [(12, ii i), (49, ii b), (50, sl g4 N N), (51, ii i), (53, ii X)]) 108 [] W a w | 6 => SR (fA B g4 N x y z ++ [(12, ii i), (49, ii b), (50, sl g4 N N), (54, ii j)]) 108 [] W a w | 7 => SR (fA B g4 N x y z ++ [(12, ii i), (49, ii b), (55, pt g4 j)]) 108 [] W a w | 8 => SR (fA B g4 N x y z ++ [(12, ii i), (49, ii b), (56, ii u)]) 108 [] W a w | 9 => SR (fA B g4 N x y z ++ [(12, ii i), (49, ii b), (57, (ii ((u : Int) - 1)))]) 108 [] W a w | 10 => SR (fA B g4 N x y z ++ [(12, ii i), (58, ii b')]) 108 [] W a w | _ => SR (fA B g4 N x y z ++ [(12, ii i), (11, ii b')]) 108 [] W a w) h0 ⟨?_, ?_, ?_, ?_, ?_, ?_, ?_, ?_, ?_, ?_, ?_, trivial⟩ ?_
  · intro a w (hI : SR _ _ _ _ a w); have e11 := hI.g 11 rfl; obtain rfl := hI.wp; go_simp; exact hI.s 49
  · intro a w (hI : SR _ _ _ _ a w); have e1 := hI.g 1 rfl; obtain rfl := hI.wp; go_simp; exact hI.s 50
  · intro a w (hI : SR _ _ _ _ a w); have e12 := hI.g 12 rfl; obtain rfl := hI.wp; go_simp; exact hI.s 51
  · intro a w (hI : SR _ _ _ _ a w); have e5 := hI.g 5 rfl; obtain rfl := hI.wp; go_simp; exact hI.s 52
  · intro a w (hI : SR _ _ _ _ a w); have e52 := hI.g 52 rfl; obtain rfl := hI.wp; go_simp; exact hI.s 53
  · intro a w (hI : SR _ _ _ _ a w); have e51 := hI.g 51 rfl; have e53 := hI.g 53 rfl; obtain rfl := hI.wp; go_simp; exact hI.s 54
  · intro a w (hI : SR _ _ _ _ a w); have e50 := hI.g 50 rfl; have e54 := hI.g 54 rfl; obtain rfl := hI.wp
    have q1_6 : (0 : Int) ≤ j := by omega
    have q2_6 : (j : Int) < N := by omega
    go_simp; exact hI.s 55
  · intro a w (hI : SR _ _ _ _ a w); have e55 := hI.g 55 rfl; obtain rfl := hI.wp; go_simp; exact hI.s 56
  · intro a w (hI : SR _ _ _ _ a w); have e56 := hI.g 56 rfl; obtain rfl := hI.wp; go_simp; exact hI.s 57
  · intro a w (hI : SR _ _ _ _ a w); have e49 := hI.g 49 rfl; have e57 := hI.g 57 rfl; obtain rfl := hI.wp; go_simp; exact hI.s 58
  · intro a w (hI : SR _ _ _ _ a w); have e58 := hI.g 58 rfl; obtain rfl := hI.wp; go_simp; exact hI.s 11
  · intro a w (hI : SR _ _ _ _ a w); obtain rfl := hI.wp
    exact hQ a (hI.sub (by intro p hp; simp only [List.mem_append, List.mem_cons, List.not_mem_nil, or_false] at hp ⊢; rcases hp with hp | hp | hp <;> simp [hp]))
theorem fr10 (n : Nat) (W : World) (B g4 N x y z : Nat) (b i : Nat) (X : Nat) (j u b' : Nat) (hj : j < N) (hu : IntKind.i64.wrap ((u : Int) - 1) = (u : Int) - 1) (hb : (if (b : Int) < (u : Int) - 1 then (u : Int) - 1 else b) = (b' : Int)) (hs : IntKind.i64.wrap ((i : Int) + X) = (j : Int)) (c0 : W.cell? ⟨B, 0, none⟩ = some (ii X)) (cu : W.cell? ⟨g4, j, none⟩ = some (ii u)) (Q : Po) (a : Act) (h0 : SR (fA B g4 N x y z ++ [(11, ii b), (12, ii i)]) 108 [] W a W)
    (hQ : ∀ a, SR (fA B g4 N x y z ++ [(11, ii b'), (12, ii i)]) 108 [] W a W → Q .normal a W) : (regOf 10 C38).wpIn Fence.wide n Try.prog Q a W := by
  simp only [regOf, C38, Try.f38, Option.getD, Nat.reduceBEq, Bool.false_eq_true, if_true, if_false]
  refine region_sq (fun k_ a w => match k_ with | 0 => SR (fA B g4 N x y z ++ [(11, ii b), (12, ii i)]) 108 [] W a w | 1 => SR (fA B g4 N x y z ++ [(12, ii i), (64, ii b)]) 108 [] W a w | 2 => SR (fA B g4 N x y z ++ [(12, ii i), (64, ii b), (65, sl g4 N N)]) 108 [] W a w | 3 => SR (fA B g4 N x y z ++ [(12, ii i), (64, ii b), (65, sl g4 N N), (66, ii i)]) 108 [] W a w | 4 => SR (fA B g4 N x y z ++ [(12, ii i), (64, ii b), (65, sl g4 N N), (66, ii i), (67, pt B 0)]) 108 [] W a w | 5 => SR (fA B g4 N x y z ++ [(12, ii i), (64, ii b), (65, sl g4 N N), (66, ii i), (68, ii X)]) 108 [] W a w | 6 => SR (fA B g4 N x y z ++ [(12, ii i), (64, ii b), (65, sl g4 N N), (69, ii j)]) 108 [] W a w | 7 => SR (fA B g4 N x y z ++ [(12, ii i), (64, ii b), (70, pt g4 j)]) 108 [] W a w | 8 => SR (fA B g4 N x y z ++ [(12, ii i), (64, ii b), (71, ii u)]) 108 [] W a w | 9 => SR (fA B g4 N x y z ++ [(12, ii i), (64, ii b), (72, (ii ((u : Int) - 1)))]) 108 [] W a w | 10 => SR (fA B g4 N x y z ++ [(12, ii i), (73, ii b')]) 108 [] W a w | _ => SR (fA B g4 N x y z ++ [(12, ii i), (11, ii b')]) 108 [] W a w) h0 ⟨?_, ?_, ?_, ?_, ?_, ?_, ?_, ?_, ?_, ?_, ?_, trivial⟩ ?_
  · intro a w (hI : SR _ _ _ _ a w); have e11 := hI.g 11 rfl; obtain rfl := hI.wp; go_simp; exact hI.s 64
  · intro a w (hI : SR _ _ _ _ a w); have e1 := hI.g 1 rfl; obtain rfl := hI.wp; go_simp; exact hI.s 65
  · intro a w (hI : SR _ _ _ _ a w); have e12 := hI.g 12 rfl; obtain rfl := hI.wp; go_simp; exact hI.s 66
  · intro a w (hI : SR _ _ _ _ a w); have e5 := hI.g 5 rfl; obtain rfl := hI.wp; go_simp; exact hI.s 67
  · intro a w (hI : SR _ _ _ _ a w); have e67 := hI.g 67 rfl; obtain rfl := hI.wp; go_simp; exact hI.s 68
  · intro a w (hI : SR _ _ _ _ a w); have e66 := hI.g 66 rfl; have e68 := hI.g 68 rfl; obtain rfl := hI.wp; go_simp; exact hI.s 69
  · intro a w (hI : SR _ _ _ _ a w); have e65 := hI.g 65 rfl; have e69 := hI.g 69 rfl; obtain rfl := hI.wp
    have q1_6 : (0 : Int) ≤ j := by omega
    have q2_6 : (j : Int) < N := by omega
    go_simp; exact hI.s 70
  · intro a w (hI : SR _ _ _ _ a w); have e70 := hI.g 70 rfl; obtain rfl := hI.wp; go_simp; exact hI.s 71
  · intro a w (hI : SR _ _ _ _ a w); have e71 := hI.g 71 rfl; obtain rfl := hI.wp; go_simp; exact hI.s 72
  · intro a w (hI : SR _ _ _ _ a w); have e64 := hI.g 64 rfl; have e72 := hI.g 72 rfl; obtain rfl := hI.wp; go_simp; exact hI.s 73
  · intro a w (hI : SR _ _ _ _ a w); have e73 := hI.g 73 rfl; obtain rfl := hI.wp; go_simp; exact hI.s 11
  · intro a w (hI : SR _ _ _ _ a w); obtain rfl := hI.wp
    exact hQ a (hI.sub (by intro p hp; simp only [List.mem_append, List.mem_cons, List.not_mem_nil, or_false] at hp ⊢; rcases hp with hp | hp | hp <;> simp [hp]))
theorem fr12 (n : Nat) (W : World) (B g4 N x y z : Nat) (b i : Nat) (X Z L : Nat) (hL : IntKind.i64.wrap ((X : Int) * Z) = (L : Int)) (j u b' : Nat) (hj : j < N) (hu : IntKind.i64.wrap ((u : Int) - 1) = (u : Int) - 1) (hb : (if (b : Int) < (u : Int) - 1 then (u : Int) - 1 else b) = (b' : Int)) (hs : IntKind.i64.wrap ((i : Int) - L) = (j : Int)) (c0 : W.cell? ⟨B, 0, none⟩ = some (ii X)) (c2_ : W.cell? ⟨B, 2, none⟩ = some (ii Z)) (cu : W.cell? ⟨g4, j, none⟩ = some (ii u)) (Q : Po) (a : Act) (h0 : SR (fA B g4 N x y z ++ [(11, ii b), (12, ii i)]) 108 [] W a W)
    (hQ : ∀ a, SR (fA B g4 N x y z ++ [(11, ii b'), (12, ii i)]) 108 [] W a W → Q .normal a W) : (regOf 12 C38).wpIn Fence.wide n Try.prog Q a W := by
  simp only [regOf, C38, Try.f38, Option.getD, Nat.reduceBEq, Bool.false_eq_true, if_true, if_false]
  refine region_sq (fun k_ a w => match k_ with | 0 => SR (fA B g4 N x y z ++ [(11, ii b), (12, ii i)]) 108 [] W a w | 1 => SR (fA B g4 N x y z ++ [(12, ii i), (76, ii b)]) 108 [] W a w | 2 => SR (fA B g4 N x y z ++ [(12, ii i), (76, ii b), (77, sl g4 N N)]) 108 [] W a w | 3 => SR (fA B g4 N x y z ++ [(12, ii i), (76, ii b), (77, sl g4 N N), (78, ii i)]) 108 [] W a w | 4 => SR (fA B g4 N x y z ++ [(12, ii i), (76, ii b), (77, sl g4 N N), (78, ii i), (79, pt B 0)]) 108 [] W a w | 5 => SR (fA B g4 N x y z ++ [(12, ii i), (76, ii b), (77, sl g4 N N), (78, ii i), (80, ii X)]) 108 [] W a w | 6 => SR (fA B g4 N x y z ++ [(12, ii i), (76, ii b), (77, sl g4 N N), (78, ii i), (80, ii X), (81, pt B 2)]) 108 [] W a w | 7 => SR (fA B g4 N x y z ++ [(12, ii i), (76, ii b), (77, sl g4 N N), (78, ii i), (80, ii X), (82, ii Z)]) 108 [] W a w | 8 => SR (fA B g4 N x y z ++ [(12, ii i), (76, ii b), (77, sl g4 N N), (78, ii i), (83, ii L)]) 108 [] W a w | 9 => SR (fA B g4 N x y z ++ [(12, ii i), (76, ii b), (77, sl g4 N N), (84, ii j)]) 108 [] W a w | 10 => SR (fA B g4 N x y z ++ [(12, ii i), (76, ii b), (85, pt g4 j)]) 108 [] W a w | 11 => SR (fA B g4 N x y z ++ [(12, ii i), (76, ii b), (86, ii u)]) 108 [] W a w | 12 => SR (fA B g4 N x y z ++ [(12, ii i), (76, ii b), (87, (ii ((u : Int) - 1)))]) 108 [] W a w | 13 => SR (fA B g4 N x y z ++ [(12, ii i), (88, ii b')]) 108 [] W a w | _ => SR (fA B g4 N x y z ++ [(12, ii i), (11, ii b')]) 108 [] W a w) h0 ⟨?_, ?_, ?_, ?_, ?_, ?_, ?_, ?_, ?_, ?_, ?_, ?_, ?_, ?_, trivial⟩ ?_
  · intro a w (hI : SR _ _ _ _ a w); have e11 := hI.g 11 rfl; obtain rfl := hI.wp; go_simp; exact hI.s 76
  · intro a w (hI : SR _ _ _ _ a w); have e1 := hI.g 1 rfl; obtain rfl := hI.wp; go_simp; exact hI.s 77
  · intro a w (hI : SR _ _ _ _ a w); have e12 := hI.g 12 rfl; obtain rfl := hI.wp; go_simp; exact hI.s 78
  · intro a w (hI : SR _ _ _ _ a w); have e5 := hI.g 5 rfl; obtain rfl := hI.wp; go_simp; exact hI.s 79
  · intro a w (hI : SR _ _ _ _ a w); have e79 := hI.g 79 rfl; obtain rfl := hI.wp; go_simp; exact hI.s 80
  · intro a w (hI : SR _ _ _ _ a w); have e5 := hI.g 5 rfl; obtain rfl := hI.wp; go_simp; exact hI.s 81
  · intro a w (hI : SR _ _ _ _ a w); have e81 := hI.g 81 rfl; obtain rfl := hI.wp; go_simp; exact hI.s 82
  · intro a w (hI : SR _ _ _ _ a w); have e80 := hI.g 80 rfl; have e82 := hI.g 82 rfl; obtain rfl := hI.wp; go_simp; exact hI.s 83
  · intro a w (hI : SR _ _ _ _ a w); have e78 := hI.g 78 rfl; have e83 := hI.g 83 rfl; obtain rfl := hI.wp; go_simp; exact hI.s 84
  · intro a w (hI : SR _ _ _ _ a w); have e77 := hI.g 77 rfl; have e84 := hI.g 84 rfl; obtain rfl := hI.wp
    have q1_9 : (0 : Int) ≤ j := by omega
    have q2_9 : (j : Int) < N := by omega
    go_simp; exact hI.s 85
  · intro a w (hI : SR _ _ _ _ a w); have e85 := hI.g 85 rfl; obtain rfl := hI.wp; go_simp; exact hI.s 86
  · intro a w (hI : SR _ _ _ _ a w); have e86 := hI.g 86 rfl; obtain rfl := hI.wp; go_simp; exact hI.s 87
  · intro a w (hI : SR _ _ _ _ a w); have e76 := hI.g 76 rfl; have e87 := hI.g 87 rfl; obtain rfl := hI.wp; go_simp; exact hI.s 88
  · intro a w (hI : SR _ _ _ _ a w); have e88 := hI.g 88 rfl; obtain rfl := hI.wp; go_simp; exact hI.s 11
  · intro a w (hI : SR _ _ _ _ a w); obtain rfl := hI.wp
    exact hQ a (hI.sub (by intro p hp; simp only [List.mem_append, List.mem_cons, List.not_mem_nil, or_false] at hp ⊢; rcases hp with hp | hp | hp <;> simp [hp]))
theorem fr14 (n : Nat) (W : World) (B g4 N x y z : Nat) (b i : Nat) (X Z L : Nat) (hL : IntKind.i64.wrap ((X : Int) * Z) = (L : Int)) (j u b' : Nat) (hj : j < N) (hu : IntKind.i64.wrap ((u : Int) - 1) = (u : Int) - 1) (hb : (if (b : Int) < (u : Int) - 1 then (u : Int) - 1 else b) = (b' : Int)) (hs : IntKind.i64.wrap ((i : Int) + L) = (j : Int)) (c0 : W.cell? ⟨B, 0, none⟩ = some (ii X)) (c2_ : W.cell? ⟨B, 2, none⟩ = some (ii Z)) (cu : W.cell? ⟨g4, j, none⟩ = some (ii u)) (Q : Po) (a : Act) (h0 : SR (fA B g4 N x y z ++ [(11, ii b), (12, ii i)]) 108 [] W a W)
    (hQ : ∀ a, SR (fA B g4 N x y z ++ [(11, ii b'), (12, ii i)]) 108 [] W a W → Q .normal a W) : (regOf 14 C38).wpIn Fence.wide n Try.prog Q a W := by
  simp only [regOf, C38, Try.f38, Option.getD, Nat.reduceBEq, Bool.false_eq_true, if_true, if_false]
  refine region_sq (fun k_ a w => match k_ with | 0 => SR (fA B g4 N x y z ++ [(11, ii b), (12, ii i)]) 108 [] W a w | 1 => SR (fA B g4 N x y z ++ [(12, ii i), (94, ii b)]) 108 [] W a w | 2 => SR (fA B g4 N x y z ++ [(12, ii i), (94, ii b), (95, sl g4 N N)]) 108 [] W a w | 3 => SR (fA B g4 N x y z ++ [(12, ii i), (94, ii b), (95, sl g4 N N), (96, ii i)]) 108 [] W a w | 4 => SR (fA B g4 N x y z ++ [(12, ii i), (94, ii b), (95, sl g4 N N), (96, ii i), (97, pt B 0)]) 108 [] W a w | 5 => SR (fA B g4 N x y z ++ [(12, ii i), (94, ii b), (95, sl g4 N N), (96, ii i), (98, ii X)]) 108 [] W a w | 6 => SR (fA B g4 N x y z ++ [(12, ii i), (94, ii b), (95, sl g4 N N), (96, ii i), (98, ii X), (99, pt B 2)]) 108 [] W a w | 7 => SR (fA B g4 N x y z ++ [(12, ii i), (94, ii b), (95, sl g4 N N), (96, ii i), (98, ii X), (100, ii Z)]) 108 [] W a w | 8 => SR (fA B g4 N x y z ++ [(12, ii i), (94, ii b), (95, sl g4 N N), (96, ii i), (101, ii L)]) 108 [] W a w | 9 => SR (fA B g4 N x y z ++ [(12, ii i), (94, ii b), (95, sl g4 N N), (102, ii j)]) 108 [] W a w | 10 => SR (fA B g4 N x y z ++ [(12, ii i), (94, ii b), (103, pt g4 j)]) 108 [] W a w | 11 => SR (fA B g4 N x y z ++ [(12, ii i), (94, ii b), (104, ii u)]) 108 [] W a w | 12 => SR (fA B g4 N x y z ++ [(12, ii i), (94, ii b), (105, (ii ((u : Int) - 1)))]) 108 [] W a w | 13 => SR (fA B g4 N x y z ++ [(12, ii i), (106, ii b')]) 108 [] W a w | _ => SR (fA B g4 N x y z ++ [(12, ii i), (11, ii b')]) 108 [] W a w) h0 ⟨?_, ?_, ?_, ?_, ?_, ?_, ?_, ?_, ?_, ?_, ?_, ?_, ?_, ?_, trivial⟩ ?_
  · intro a w (hI : SR _ _ _ _ a w); have e11 := hI.g 11 rfl; obtain rfl := hI.wp; go_simp; exact hI.s 94
  · intro a w (hI : SR _ _ _ _ a w); have e1 := hI.g 1 rfl; obtain rfl := hI.wp; go_simp; exact hI.s 95
  · intro a w (hI : SR _ _ _ _ a w); have e12 := hI.g 12 rfl; obtain rfl := hI.wp; go_simp; exact hI.s 96
  · intro a w (hI : SR _ _ _ _ a w); have e5 := hI.g 5 rfl; obtain rfl := hI.wp; go_simp; exact hI.s 97
  · intro a w (hI : SR _ _ _ _ a w); have e97 := hI.g 97 rfl; obtain rfl := hI.wp; go_simp; exact hI.s 98
  · intro a w (hI : SR _ _ _ _ a w); have e5 := hI.g 5 rfl; obtain rfl := hI.wp; go_simp; exact hI.s 99
  · intro a w (hI : SR _ _ _ _ a w); have e99 := hI.g 99 rfl; obtain rfl := hI.wp; go_simp; exact hI.s 100
  · intro a w (hI : SR _ _ _ _ a w); have e98 := hI.g 98 rfl; have e100 := hI.g 100 rfl; obtain rfl := hI.wp; go_simp; exact hI.s 101
  · intro a w (hI : SR _ _ _ _ a w); have e96 := hI.g 96 rfl; have e101 := hI.g 101 rfl; obtain rfl := hI.wp; go_simp; exact hI.s 102
  · intro a w (hI : SR _ _ _ _ a w); have e95 := hI.g 95 rfl; have e102 := hI.g 102 rfl; obtain rfl := hI.wp
    have q1_9 : (0 : Int) ≤ j := by omega
    have q2_9 : (j : Int) < N := by omega
    go_simp; exact hI.s 103
  · intro a w (hI : SR _ _ _ _ a w); have e103 := hI.g 103 rfl; obtain rfl := hI.wp; go_simp; exact hI.s 104
  · intro a w (hI : SR _ _ _ _ a w); have e104 := hI.g 104 rfl; obtain rfl := hI.wp; go_simp; exact hI.s 105
  · intro a w (hI : SR _ _ _ _ a w); have e94 := hI.g 94 rfl; have e105 := hI.g 105 rfl; obtain rfl := hI.wp; go_simp; exact hI.s 106
  · intro a w (hI : SR _ _ _ _ a w); have e106 := hI.g 106 rfl; obtain rfl := hI.wp; go_simp; exact hI.s 11
  · intro a w (hI : SR _ _ _ _ a w); obtain rfl := hI.wp
    exact hQ a (hI.sub (by intro p hp; simp only [List.mem_append, List.mem_cons, List.not_mem_nil, or_false] at hp ⊢; rcases hp with hp | hp | hp <;> simp [hp]))
theorem fr15 (n : Nat) (W : World) (b : Nat) (Q : Po) (a : Act) (h0 : SR [(11, ii b)] 108 [] W a W)
    (hQ : ∀ a, SR [(10, ii b)] 108 [] W a W → Q .normal a W) : (regOf 15 C38).wpIn Fence.wide n Try.prog Q a W := by
  simp only [regOf, C38, Try.f38, Option.getD, Nat.reduceBEq, Bool.false_eq_true, if_true, if_false]
  refine region_sq (fun k_ a w => match k_ with | 0 => SR [(11, ii b)] 108 [] W a w | 1 => SR [(107, ii b)] 108 [] W a w | _ => SR [(10, ii b)] 108 [] W a w) h0 ⟨?_, ?_, trivial⟩ ?_
  · intro a w (hI : SR _ _ _ _ a w); have e11 := hI.g 11 rfl; obtain rfl := hI.wp; go_simp; exact hI.s 107
  · intro a w (hI : SR _ _ _ _ a w); have e107 := hI.g 107 rfl; obtain rfl := hI.wp; go_simp; exact hI.s 10
  · intro a w (hI : SR _ _ _ _ a w); obtain rfl := hI.wp
    exact hQ a hI
noncomputable def C16 : Code := Try.f16.body.getD .skip
theorem sm0 (n : Nat) (W : World) (r g5 N c5 : Nat)  (Q : Po) (a : Act) (h0 : SR [(0, sl r N N), (1, sl g5 N c5)] 26 [] W a W)
    (hQ : ∀ a, SR [(0, sl r N N), (1, sl g5 N c5)] 26 [] W a W → Q .normal a W) : (regOf 0 C16).wpIn Fence.wide n Try.prog Q a W := by
  simp only [regOf, C16, Try.f16, Option.getD, Nat.reduceBEq, Bool.false_eq_true, if_true, if_false]
  refine region_sq (fun k_ a w => match k_ with | 0 => SR [(0, sl r N N), (1, sl g5 N c5)] 26 [] W a w | _ => SR [(0, sl r N N), (1, sl g5 N c5)] 26 [] W a w) h0 ⟨?_, trivial⟩ ?_
  · intro a w (hI : SR _ _ _ _ a w); obtain rfl := hI.wp; go_simp; exact hI.s 4
  · intro a w (hI : SR _ _ _ _ a w); obtain rfl := hI.wp
    exact hQ a hI
theorem sm1 (n : Nat) (W : World) (r g5 N c5 : Nat)  (Q : Po) (a : Act) (h0 : SR [(0, sl r N N), (1, sl g5 N c5)] 26 [] W a W)
    (hQ : ∀ a, SR [(0, sl r N N), (1, sl g5 N c5), (10, .bool false)] 26 [] W a W → Q .normal a W) : (regOf 1 C16).wpIn Fence.wide n Try.prog Q a W := by
  simp only [regOf, C16, Try.f16, Option.getD, Nat.reduceBEq, Bool.false_eq_true, if_true, if_false]
  refine region_sq (fun k_ a w => match k_ with | 0 => SR [(0, sl r N N), (1, sl g5 N c5)] 26 [] W a w | 1 => SR [(0, sl r N N), (1, sl g5 N c5), (6, sl r N N)] 26 [] W a w | 2 => SR [(0, sl r N N), (1, sl g5 N c5), (7, ii N)] 26 [] W a w | 3 => SR [(0, sl r N N), (1, sl g5 N c5), (7, ii N), (8, sl g5 N c5)] 26 [] W a w | 4 => SR [(0, sl r N N), (1, sl g5 N c5), (7, ii N), (9, ii N)] 26 [] W a w | _ => SR [(0, sl r N N), (1, sl g5 N c5), (10, .bool false)] 26 [] W a w) h0 ⟨?_, ?_, ?_, ?_, ?_, trivial⟩ ?_
  · intro a w (hI : SR _ _ _ _ a w); have e0 := hI.g 0 rfl; obtain rfl := hI.wp; go_simp; exact hI.s 6
  · intro a w (hI : SR _ _ _ _ a w); have e6 := hI.g 6 rfl; obtain rfl := hI.wp; go_simp; exact hI.s 7
  · intro a w (hI : SR _ _ _ _ a w); have e1 := hI.g 1 rfl; obtain rfl := hI.wp; go_simp; exact hI.s 8
  · intro a w (hI : SR _ _ _ _ a w); have e8 := hI.g 8 rfl; obtain rfl := hI.wp; go_simp; exact hI.s 9
  · intro a w (hI : SR _ _ _ _ a w); have e7 := hI.g 7 rfl; have e9 := hI.g 9 rfl; obtain rfl := hI.wp; go_simp; exact hI.s 10
  · intro a w (hI : SR _ _ _ _ a w); obtain rfl := hI.wp
    exact hQ a hI
theorem sm3 (n : Nat) (W : World) (r g5 N c5 : Nat)  (Q : Po) (a : Act) (h0 : SR [(0, sl r N N), (1, sl g5 N c5)] 26 [] W a W)
    (hQ : ∀ a, SR [(0, sl r N N), (1, sl g5 N c5), (5, ii 0)] 26 [] W a W → Q .normal a W) : (regOf 3 C16).wpIn Fence.wide n Try.prog Q a W := by
  simp only [regOf, C16, Try.f16, Option.getD, Nat.reduceBEq, Bool.false_eq_true, if_true, if_false]
  refine region_sq (fun k_ a w => match k_ with | 0 => SR [(0, sl r N N), (1, sl g5 N c5)] 26 [] W a w | _ => SR [(0, sl r N N), (1, sl g5 N c5), (5, ii 0)] 26 [] W a w) h0 ⟨?_, trivial⟩ ?_
  · intro a w (hI : SR _ _ _ _ a w); obtain rfl := hI.wp; go_simp; exact hI.s 5
  · intro a w (hI : SR _ _ _ _ a w); obtain rfl := hI.wp
    exact hQ a hI
theorem sm4 (n : Nat) (W : World) (r g5 N c5 : Nat) (i : Nat)  (Q : Po) (a : Act) (h0 : SR [(0, sl r N N), (1, sl g5 N c5), (5, ii i)] 26 [] W a W)
    (hQ : ∀ a, SR [(0, sl r N N), (1, sl g5 N c5), (5, ii i), (14, .bool (decide (i < N)))] 26 [] W a W → Q .normal a W) : (regOf 4 C16).wpIn Fence.wide n Try.prog Q a W := by
  simp only [regOf, C16, Try.f16, Option.getD, Nat.reduceBEq, Bool.false_eq_true, if_true, if_false]
  refine region_sq (fun k_ a w => match k_ with | 0 => SR [(0, sl r N N), (1, sl g5 N c5), (5, ii i)] 26 [] W a w | 1 => SR [(0, sl r N N), (1, sl g5 N c5), (5, ii i), (11, ii i)] 26 [] W a w | 2 => SR [(0, sl r N N), (1, sl g5 N c5), (5, ii i), (11, ii i), (12, sl r N N)] 26 [] W a w | 3 => SR [(0, sl r N N), (1, sl g5 N c5), (5, ii i), (11, ii i), (13, ii N)] 26 [] W a w | _ => SR [(0, sl r N N), (1, sl g5 N c5), (5, ii i), (14, .bool (decide (i < N)))] 26 [] W a w) h0 ⟨?_, ?_, ?_, ?_, trivial⟩ ?_
  · intro a w (hI : SR _ _ _ _ a w); have e5 := hI.g 5 rfl; obtain rfl := hI.wp; go_simp; exact hI.s 11
  · intro a w (hI : SR _ _ _ _ a w); have e0 := hI.g 0 rfl; obtain rfl := hI.wp; go_simp; exact hI.s 12
  · intro a w (hI : SR _ _ _ _ a w); have e12 := hI.g 12 rfl; obtain rfl := hI.wp; go_simp; exact hI.s 13
  · intro a w (hI : SR _ _ _ _ a w); have e11 := hI.g 11 rfl; have e13 := hI.g 13 rfl; obtain rfl := hI.wp; go_simp; exact hI.s 14
  · intro a w (hI : SR _ _ _ _ a w); obtain rfl := hI.wp
    exact hQ a hI
theorem sm5 (n : Nat) (W : World) (r g5 N c5 : Nat) (i : Nat) (hi : i < 9000000000) (Q : Po) (a : Act) (h0 : SR [(0, sl r N N), (1, sl g5 N c5), (5, ii i)] 26 [] W a W)
    (hQ : ∀ a, SR [(0, sl r N N), (1, sl g5 N c5), (5, (ii ((i : Int) + 1)))] 26 [] W a W → Q .normal a W) : (regOf 5 C16).wpIn Fence.wide n Try.prog Q a W := by
  simp only [regOf, C16, Try.f16, Option.getD, Nat.reduceBEq, Bool.false_eq_true, if_true, if_false]
  refine region_sq (fun k_ a w => match k_ with | 0 => SR [(0, sl r N N), (1, sl g5 N c5), (5, ii i)] 26 [] W a w | 1 => SR [(0, sl r N N), (1, sl g5 N c5), (15, ii i)] 26 [] W a w | 2 => SR [(0, sl r N N), (1, sl g5 N c5), (16, (ii ((i : Int) + 1)))] 26 [] W a w | _ => SR [(0, sl r N N), (1, sl g5 N c5), (5, (ii ((i : Int) + 1)))] 26 [] W a w) h0 ⟨?_, ?_, ?_, trivial⟩ ?_
  · intro a w (hI : SR _ _ _ _ a w); have e5 := hI.g 5 rfl; obtain rfl := hI.wp; go_simp; exact hI.s 15
  · intro a w (hI : SR _ _ _ _ a w); have e15 := hI.g 15 rfl; obtain rfl := hI.wp
    have hw1 : IntKind.i64.wrap ((i : Int) + 1) = (i : Int) + 1 := IntWalk.i64_in _ (by omega)
    go_simp; exact hI.s 16
  · intro a w (hI : SR _ _ _ _ a w); have e16 := hI.g 16 rfl; obtain rfl := hI.wp; go_simp; exact hI.s 5
  · intro a w (hI : SR _ _ _ _ a w); obtain rfl := hI.wp
    exact hQ a hI
theorem sm6 (n : Nat) {G : World → Prop} (hS : Stable G) (r g5 N c5 : Nat) (i : Nat) (s l : Nat) (hi : i < N) (la0 : CE G r (i * 2) (.int .u8 s)) (la1 : CE G r (i * 2 + 1) (.int .u8 l)) (lb0 : CE G g5 (i * 2) (.int .u8 s)) (lb1 : CE G g5 (i * 2 + 1) (.int .u8 l)) (Q : Po) (a : Act) (w : World) (h0 : SG [(0, sl r N N), (1, sl g5 N c5), (5, ii i)] 26 G a w)
    (hQ : ∀ a w, SG [(0, sl r N N), (1, sl g5 N c5), (5, ii i), (25, .bool false)] 26 G a w → Q .normal a w) : (regOf 6 C16).wpIn Fence.wide n Try.prog Q a w := by
  have hmix : Try.prog.follows .mixedOrders = true := by kernel_rfl
  simp only [regOf, C16, Try.f16, Option.getD, Nat.reduceBEq, Bool.false_eq_true, if_true, if_false]
  refine region_inv (RI [(0, sl r N N), (1, sl g5 N c5), (5, ii i)]
    [(0, 17, sl r N N), (1, 18, ii i), (2, 19, pt r (i * 2)), (3, 20, .agg #[.int .u8 s, .int .u8 l]), (4, 21, sl g5 N c5), (5, 22, ii i), (6, 23, pt g5 (i * 2)), (7, 24, .agg #[.int .u8 s, .int .u8 l]), (8, 25, .bool false)] 26 [] (fun _ w => G w)) hmix (by kernel_rfl) ⟨h0.size, h0.defers, h0.kn, by simp, hS _ _ h0.wp (Below.refl _ _).drew⟩ ⟨?_, ?_, ?_, ?_, ?_, ?_, ?_, ?_, ?_, trivial⟩ ?_
  · intro Xs a w hX hdep hC hI; have e0 := hI.gi 0 rfl; go_simp; exact hI.p 0 17 hI.wp
  · intro Xs a w hX hdep hC hI; have e5 := hI.gi 5 rfl; go_simp; exact hI.p 1 18 hI.wp
  · intro Xs a w hX hdep hC hI; have e17 := hI.gk 0 rfl (hdep ⟨0, .data⟩ (by simp) rfl); have e18 := hI.gk 1 rfl (hdep ⟨1, .data⟩ (by simp) rfl)
    have q1_2 : (0 : Int) ≤ i := by omega
    have q2_2 : (i : Int) < N := by omega
    go_simp; exact hI.p 2 19 hI.wp
  · intro Xs a w hX hdep hC hI; have e19 := hI.gk 2 rfl (hdep ⟨2, .data⟩ (by simp) rfl); have cc0 := la0 w hI.wp; have cc1 := la1 w hI.wp; go_simp; exact hI.p 3 20 hI.wp
  · intro Xs a w hX hdep hC hI; have e1 := hI.gi 1 rfl; go_simp; exact hI.p 4 21 hI.wp
  · intro Xs a w hX hdep hC hI; have e5 := hI.gi 5 rfl; go_simp; exact hI.p 5 22 hI.wp
  · intro Xs a w hX hdep hC hI; have e21 := hI.gk 4 rfl (hdep ⟨4, .data⟩ (by simp) rfl); have e22 := hI.gk 5 rfl (hdep ⟨5, .data⟩ (by simp) rfl)
    have q1_6 : (0 : Int) ≤ i := by omega
    have q2_6 : (i : Int) < N := by omega
    go_simp; exact hI.p 6 23 hI.wp
  · intro Xs a w hX hdep hC hI; have e23 := hI.gk 6 rfl (hdep ⟨6, .data⟩ (by simp) rfl); have cc0 := lb0 w hI.wp; have cc1 := lb1 w hI.wp; go_simp; exact hI.p 7 24 hI.wp
  · intro Xs a w hX hdep hC hI; have e20 := hI.gk 3 rfl (hdep ⟨3, .data⟩ (by simp) rfl); have e24 := hI.gk 7 rfl (hdep ⟨7, .data⟩ (by simp) rfl); go_simp; exact hI.p 8 25 hI.wp
  · intro Xs a w hX hI
    refine hQ a w ⟨hI.size, hI.defers, ?_, hI.wp⟩
    simp only [List.mem_cons, List.not_mem_nil, or_false, forall_eq_or_imp, forall_eq]
    exact ⟨hI.gi 0 rfl, hI.gi 1 rfl, hI.gi 5 rfl, hI.gk 8 rfl (hX 8 (by simp))⟩
theorem sm8 (n : Nat) (W : World)  (Q : Po) (a : Act) (h0 : SR [] 26 [] W a W)
    (hQ : ∀ a, SR [(4, .bool true)] 26 [] W a W → Q .normal a W) : (regOf 8 C16).wpIn Fence.wide n Try.prog Q a W := by
  simp only [regOf, C16, Try.f16, Option.getD, Nat.reduceBEq, Bool.false_eq_true, if_true, if_false]
  refine region_sq (fun k_ a w => match k_ with | 0 => SR [] 26 [] W a w | _ => SR [(4, .bool true)] 26 [] W a w) h0 ⟨?_, trivial⟩ ?_
  · intro a w (hI : SR _ _ _ _ a w); obtain rfl := hI.wp; go_simp; exact hI.s 4
  · intro a w (hI : SR _ _ _ _ a w); obtain rfl := hI.wp
    exact hQ a hI
end Go.Proofs.Ytmgiabehooghcaa
