/- Glow: the walk of a law. -/
import Derived.RangeFuncNested
import Derived.RangeFuncBound
import Derived.RangeFuncCalls
import Derived.RangeFuncLeaves
import Derived.Shelf.Abstract
import Derived.Shelf.RegionOpen
import Derived.WalkKit
import Derived.OwnWalkIn
import Derived.TacticsInMore
import Derived.LoopNIn
import Derived.LoopIn
import Derived.Lib.Hide
import Derived.IntWalk
import Derived.Maps.AppendAt
import Derived.Test.YtigblagodlfedaaHand

import Derived.Laws.CopyOwn
import Derived.Deep.Slices
import Derived.SizedLaws
import Derived.DataReads
import Derived.Test.YtigblagodlfedaaM6
set_option linter.unusedVariables false
set_option linter.unusedSimpArgs false
namespace Go.Proofs.Ytigblagodlfedaa
open Go.RowKit Go.Shelf
attribute [local go_sem] Oper.semAt_some

open Pf (cellK cellL mayS spotV I64 U8 Gives movR totI totB ledgV)
theorem neq33s {p : Sp3} (hp : okS p) (w : World) : (binOp .neq 33 (sv p) (sv p)).run Try.prog w = .ok (.bool false) w := by
  have := neq33 hp hp w
  rw [decide_eq_true rfl] at this
  exact this
abbrev s4 (sa : Option Addr) (L pc : Nat) (bx : Nat) (v5 v6 v7 : Value)  : List (Nat × Value) := [(0, .slice sa L pc), (3, .pointer (some ⟨bx, 0, none⟩)), (5, v5), (6, v6), (7, v7)]
set_option maxRecDepth 100000 in
set_option maxHeartbeats 4000000 in
theorem tu25 (n : Nat) {G : World → Prop} (hS : Stable G) (sa : Option Addr) (L pc : Nat) (bx : Nat) (v5 v6 v7 : Value) (s er : Int)  (hc : ∀ m w, G w → CallsIn Fence.wide m Try.prog 19 #[v5] w fun e w' => e = .returned (.tuple #[.int .i64 s, .int .i64 er]) ∧ Below w.heap.size w w') (Q : Exit → Act → World → Prop) (a : Act) (w : World) (h0 : SG (s4 sa L pc bx v5 v6 v7) 190 G a w)
    (hQ : ∀ a w, SG (s4 sa L pc bx v5 v6 v7 ++ [(15, .int .i64 s), (16, .int .i64 er)]) 190 G a w → Q .normal a w) : (regOf 25 C5).wpIn Fence.wide n Try.prog Q a w := by
  simp only [regOf, C5, Try.f5, Option.getD, Nat.reduceBEq, Bool.false_eq_true, if_true, if_false]
  refine region_sq (fun k_ a w => match k_ with | 0 => SG (s4 sa L pc bx v5 v6 v7) 190 G a w | 1 => SG (s4 sa L pc bx v5 v6 v7 ++ [(114, v5)]) 190 G a w | 2 => SG (s4 sa L pc bx v5 v6 v7 ++ [(115, .tuple #[.int .i64 s, .int .i64 er])]) 190 G a w | 3 => SG (s4 sa L pc bx v5 v6 v7 ++ [(113, .tuple #[.int .i64 s, .int .i64 er])]) 190 G a w | 4 => SG (s4 sa L pc bx v5 v6 v7 ++ [(113, .tuple #[.int .i64 s, .int .i64 er]), (116, .int .i64 s)]) 190 G a w | 5 => SG (s4 sa L pc bx v5 v6 v7 ++ [(116, .int .i64 s), (117, .int .i64 er)]) 190 G a w | 6 => SG (s4 sa L pc bx v5 v6 v7 ++ [(117, .int .i64 er), (15, .int .i64 s)]) 190 G a w | _ => SG (s4 sa L pc bx v5 v6 v7 ++ [(15, .int .i64 s), (16, .int .i64 er)]) 190 G a w) (show SG _ _ G a w from h0) ⟨?_, ?_, ?_, ?_, ?_, ?_, ?_, trivial⟩ ?_
  · intro a w hI
    have hI : SG _ _ G a w := hI
    have e5 := hI.g 5 rfl
    go_simp
    exact hI.put (d := 114) (by decide) (by simp) hI.wp
  · intro a w hI
    have hI : SG _ _ G a w := hI
    have e114 := hI.g 114 rfl
    go_simp
    refine ⟨trivial, fun h => (by cases h), (hc (n - 1) w hI.wp).mono ?_⟩
    rintro e w' ⟨rfl, hb2⟩
    exact hI.put (d := 115) (by decide) (by simp) (hS _ _ hI.wp hb2)
  · intro a w hI
    have hI : SG _ _ G a w := hI
    have e115 := hI.g 115 rfl
    go_simp
    exact hI.put (d := 113) (by decide) (by simp) hI.wp
  · intro a w hI
    have hI : SG _ _ G a w := hI
    have e113 := hI.g 113 rfl
    go_simp
    exact hI.put (d := 116) (by decide) (by simp) hI.wp
  · intro a w hI
    have hI : SG _ _ G a w := hI
    have e113 := hI.g 113 rfl
    go_simp
    exact hI.put (d := 117) (by decide) (by simp) hI.wp
  · intro a w hI
    have hI : SG _ _ G a w := hI
    have e116 := hI.g 116 rfl
    go_simp
    exact hI.put (d := 15) (by decide) (by simp) hI.wp
  · intro a w hI
    have hI : SG _ _ G a w := hI
    have e117 := hI.g 117 rfl
    go_simp
    exact hI.put (d := 16) (by decide) (by simp) hI.wp
  · intro a w hI
    have hI : SG _ _ G a w := hI
    exact hQ a w hI
set_option maxRecDepth 100000 in
set_option maxHeartbeats 4000000 in
theorem tu26 (n : Nat) {G : World → Prop} (hS : Stable G) (sa : Option Addr) (L pc : Nat) (bx : Nat) (v5 v6 v7 : Value) (s er : Int)  (hc : ∀ m w, G w → CallsIn Fence.wide m Try.prog 20 #[v6, v7] w fun e w' => e = .returned (.tuple #[.int .i64 s, .int .i64 er]) ∧ Below w.heap.size w w') (Q : Exit → Act → World → Prop) (a : Act) (w : World) (h0 : SG (s4 sa L pc bx v5 v6 v7 ++ [(15, .int .i64 s), (16, .int .i64 er)]) 190 G a w)
    (hQ : ∀ a w, SG (s4 sa L pc bx v5 v6 v7 ++ [(15, .int .i64 s), (16, .int .i64 er), (17, .int .i64 s), (18, .int .i64 er)]) 190 G a w → Q .normal a w) : (regOf 26 C5).wpIn Fence.wide n Try.prog Q a w := by
  simp only [regOf, C5, Try.f5, Option.getD, Nat.reduceBEq, Bool.false_eq_true, if_true, if_false]
  refine region_sq (fun k_ a w => match k_ with | 0 => SG (s4 sa L pc bx v5 v6 v7 ++ [(15, .int .i64 s), (16, .int .i64 er)]) 190 G a w | 1 => SG (s4 sa L pc bx v5 v6 v7 ++ [(15, .int .i64 s), (16, .int .i64 er), (119, v6)]) 190 G a w | 2 => SG (s4 sa L pc bx v5 v6 v7 ++ [(15, .int .i64 s), (16, .int .i64 er), (119, v6), (120, v7)]) 190 G a w | 3 => SG (s4 sa L pc bx v5 v6 v7 ++ [(15, .int .i64 s), (16, .int .i64 er), (121, .tuple #[.int .i64 s, .int .i64 er])]) 190 G a w | 4 => SG (s4 sa L pc bx v5 v6 v7 ++ [(15, .int .i64 s), (16, .int .i64 er), (118, .tuple #[.int .i64 s, .int .i64 er])]) 190 G a w | 5 => SG (s4 sa L pc bx v5 v6 v7 ++ [(15, .int .i64 s), (16, .int .i64 er), (118, .tuple #[.int .i64 s, .int .i64 er]), (122, .int .i64 s)]) 190 G a w | 6 => SG (s4 sa L pc bx v5 v6 v7 ++ [(15, .int .i64 s), (16, .int .i64 er), (122, .int .i64 s), (123, .int .i64 er)]) 190 G a w | 7 => SG (s4 sa L pc bx v5 v6 v7 ++ [(15, .int .i64 s), (16, .int .i64 er), (123, .int .i64 er), (17, .int .i64 s)]) 190 G a w | _ => SG (s4 sa L pc bx v5 v6 v7 ++ [(15, .int .i64 s), (16, .int .i64 er), (17, .int .i64 s), (18, .int .i64 er)]) 190 G a w) (show SG _ _ G a w from h0) ⟨?_, ?_, ?_, ?_, ?_, ?_, ?_, ?_, trivial⟩ ?_
  · intro a w hI
    have hI : SG _ _ G a w := hI
    have e6 := hI.g 6 rfl
    go_simp
    exact hI.put (d := 119) (by decide) (by simp) hI.wp
  · intro a w hI
    have hI : SG _ _ G a w := hI
    have e7 := hI.g 7 rfl
    go_simp
    exact hI.put (d := 120) (by decide) (by simp) hI.wp
  · intro a w hI
    have hI : SG _ _ G a w := hI
    have e119 := hI.g 119 rfl
    have e120 := hI.g 120 rfl
    go_simp
    refine ⟨trivial, fun h => (by cases h), (hc (n - 1) w hI.wp).mono ?_⟩
    rintro e w' ⟨rfl, hb2⟩
    exact hI.put (d := 121) (by decide) (by simp) (hS _ _ hI.wp hb2)
  · intro a w hI
    have hI : SG _ _ G a w := hI
    have e121 := hI.g 121 rfl
    go_simp
    exact hI.put (d := 118) (by decide) (by simp) hI.wp
  · intro a w hI
    have hI : SG _ _ G a w := hI
    have e118 := hI.g 118 rfl
    go_simp
    exact hI.put (d := 122) (by decide) (by simp) hI.wp
  · intro a w hI
    have hI : SG _ _ G a w := hI
    have e118 := hI.g 118 rfl
    go_simp
    exact hI.put (d := 123) (by decide) (by simp) hI.wp
  · intro a w hI
    have hI : SG _ _ G a w := hI
    have e122 := hI.g 122 rfl
    go_simp
    exact hI.put (d := 17) (by decide) (by simp) hI.wp
  · intro a w hI
    have hI : SG _ _ G a w := hI
    have e123 := hI.g 123 rfl
    go_simp
    exact hI.put (d := 18) (by decide) (by simp) hI.wp
  · intro a w hI
    have hI : SG _ _ G a w := hI
    exact hQ a w hI
set_option maxRecDepth 100000 in
set_option maxHeartbeats 4000000 in
theorem tu27 (n : Nat) {G : World → Prop} (hS : Stable G) (sa : Option Addr) (L pc : Nat) (bx : Nat) (v5 v6 v7 : Value) (l0 l1 l2 l3 : Int) (t : Int) (ok : Bool) (s er : Int)  (k0 : ∀ w, G w → w.cell? ⟨bx, 0, none⟩ = some (.int .i64 l0)) (k1 : ∀ w, G w → w.cell? ⟨bx, 1, none⟩ = some (.int .i64 l1)) (k2 : ∀ w, G w → w.cell? ⟨bx, 2, none⟩ = some (.int .i64 l2)) (k3 : ∀ w, G w → w.cell? ⟨bx, 3, none⟩ = some (.int .i64 l3)) (hc : ∀ m w, G w → CallsIn Fence.wide m Try.prog 8 #[.agg #[.int .i64 l0, .int .i64 l1, .int .i64 l2, .int .i64 l3]] w fun e w' => e = .returned (.tuple #[.int .i64 t, .bool ok]) ∧ Below w.heap.size w w') (Q : Exit → Act → World → Prop) (a : Act) (w : World) (h0 : SG (s4 sa L pc bx v5 v6 v7 ++ [(15, .int .i64 s), (16, .int .i64 er), (17, .int .i64 s), (18, .int .i64 er)]) 190 G a w)
    (hQ : ∀ a w, SG (s4 sa L pc bx v5 v6 v7 ++ [(15, .int .i64 s), (16, .int .i64 er), (17, .int .i64 s), (18, .int .i64 er), (19, .int .i64 t), (20, .bool ok)]) 190 G a w → Q .normal a w) : (regOf 27 C5).wpIn Fence.wide n Try.prog Q a w := by
  simp only [regOf, C5, Try.f5, Option.getD, Nat.reduceBEq, Bool.false_eq_true, if_true, if_false]
  refine region_sq (fun k_ a w => match k_ with | 0 => SG (s4 sa L pc bx v5 v6 v7 ++ [(15, .int .i64 s), (16, .int .i64 er), (17, .int .i64 s), (18, .int .i64 er)]) 190 G a w | 1 => SG (s4 sa L pc bx v5 v6 v7 ++ [(15, .int .i64 s), (16, .int .i64 er), (17, .int .i64 s), (18, .int .i64 er), (125, .agg #[.int .i64 l0, .int .i64 l1, .int .i64 l2, .int .i64 l3])]) 190 G a w | 2 => SG (s4 sa L pc bx v5 v6 v7 ++ [(15, .int .i64 s), (16, .int .i64 er), (17, .int .i64 s), (18, .int .i64 er), (126, .tuple #[.int .i64 t, .bool ok])]) 190 G a w | 3 => SG (s4 sa L pc bx v5 v6 v7 ++ [(15, .int .i64 s), (16, .int .i64 er), (17, .int .i64 s), (18, .int .i64 er), (124, .tuple #[.int .i64 t, .bool ok])]) 190 G a w | 4 => SG (s4 sa L pc bx v5 v6 v7 ++ [(15, .int .i64 s), (16, .int .i64 er), (17, .int .i64 s), (18, .int .i64 er), (124, .tuple #[.int .i64 t, .bool ok]), (127, .int .i64 t)]) 190 G a w | 5 => SG (s4 sa L pc bx v5 v6 v7 ++ [(15, .int .i64 s), (16, .int .i64 er), (17, .int .i64 s), (18, .int .i64 er), (127, .int .i64 t), (128, .bool ok)]) 190 G a w | 6 => SG (s4 sa L pc bx v5 v6 v7 ++ [(15, .int .i64 s), (16, .int .i64 er), (17, .int .i64 s), (18, .int .i64 er), (128, .bool ok), (19, .int .i64 t)]) 190 G a w | _ => SG (s4 sa L pc bx v5 v6 v7 ++ [(15, .int .i64 s), (16, .int .i64 er), (17, .int .i64 s), (18, .int .i64 er), (19, .int .i64 t), (20, .bool ok)]) 190 G a w) (show SG _ _ G a w from h0) ⟨?_, ?_, ?_, ?_, ?_, ?_, ?_, trivial⟩ ?_
  · intro a w hI
    have hI : SG _ _ G a w := hI
    have e3 := hI.g 3 rfl
    have cc0 := k0 w hI.wp
    have cc1 := k1 w hI.wp
    have cc2 := k2 w hI.wp
    have cc3 := k3 w hI.wp
    go_simp
    exact hI.put (d := 125) (by decide) (by simp) hI.wp
  · intro a w hI
    have hI : SG _ _ G a w := hI
    have e125 := hI.g 125 rfl
    go_simp
    refine ⟨trivial, fun h => (by cases h), (hc (n - 1) w hI.wp).mono ?_⟩
    rintro e w' ⟨rfl, hb2⟩
    exact hI.put (d := 126) (by decide) (by simp) (hS _ _ hI.wp hb2)
  · intro a w hI
    have hI : SG _ _ G a w := hI
    have e126 := hI.g 126 rfl
    go_simp
    exact hI.put (d := 124) (by decide) (by simp) hI.wp
  · intro a w hI
    have hI : SG _ _ G a w := hI
    have e124 := hI.g 124 rfl
    go_simp
    exact hI.put (d := 127) (by decide) (by simp) hI.wp
  · intro a w hI
    have hI : SG _ _ G a w := hI
    have e124 := hI.g 124 rfl
    go_simp
    exact hI.put (d := 128) (by decide) (by simp) hI.wp
  · intro a w hI
    have hI : SG _ _ G a w := hI
    have e127 := hI.g 127 rfl
    go_simp
    exact hI.put (d := 19) (by decide) (by simp) hI.wp
  · intro a w hI
    have hI : SG _ _ G a w := hI
    have e128 := hI.g 128 rfl
    go_simp
    exact hI.put (d := 20) (by decide) (by simp) hI.wp
  · intro a w hI
    have hI : SG _ _ G a w := hI
    exact hQ a w hI
set_option maxRecDepth 100000 in
set_option maxHeartbeats 4000000 in
theorem tu28a (n : Nat) {G : World → Prop} (hS : Stable G) (sa : Option Addr) (L pc : Nat) (bx : Nat) (v5 v6 v7 : Value) (l0 l1 l2 l3 : Int) (t : Int) (s er : Int)  (k0 : ∀ w, G w → w.cell? ⟨bx, 0, none⟩ = some (.int .i64 l0)) (k1 : ∀ w, G w → w.cell? ⟨bx, 1, none⟩ = some (.int .i64 l1)) (k2 : ∀ w, G w → w.cell? ⟨bx, 2, none⟩ = some (.int .i64 l2)) (k3 : ∀ w, G w → w.cell? ⟨bx, 3, none⟩ = some (.int .i64 l3)) (hc : ∀ m w, G w → CallsIn Fence.wide m Try.prog 21 #[.agg #[.int .i64 l0, .int .i64 l1, .int .i64 l2, .int .i64 l3], v5] w fun e w' => e = .returned (.bool false) ∧ Below w.heap.size w w') (Q : Exit → Act → World → Prop) (a : Act) (w : World) (h0 : SG (s4 sa L pc bx v5 v6 v7 ++ [(15, .int .i64 s), (16, .int .i64 er), (17, .int .i64 s), (18, .int .i64 er), (19, .int .i64 t), (20, .bool false)]) 190 G a w)
    (hQ : ∀ a w, SG (s4 sa L pc bx v5 v6 v7 ++ [(152, .bool false)]) 190 G a w → Q .normal a w) : (regOf 28 C5).wpIn Fence.wide n Try.prog Q a w := by
  simp only [regOf, C5, Try.f5, Option.getD, Nat.reduceBEq, Bool.false_eq_true, if_true, if_false]
  refine region_sq (fun k_ a w => match k_ with | 0 => SG (s4 sa L pc bx v5 v6 v7 ++ [(15, .int .i64 s), (16, .int .i64 er), (17, .int .i64 s), (18, .int .i64 er), (20, .bool false)]) 190 G a w | 1 => SG (s4 sa L pc bx v5 v6 v7 ++ [(16, .int .i64 er), (17, .int .i64 s), (18, .int .i64 er), (20, .bool false), (129, .int .i64 s)]) 190 G a w | 2 => SG (s4 sa L pc bx v5 v6 v7 ++ [(16, .int .i64 er), (18, .int .i64 er), (20, .bool false), (129, .int .i64 s), (130, .int .i64 s)]) 190 G a w | 3 => SG (s4 sa L pc bx v5 v6 v7 ++ [(16, .int .i64 er), (18, .int .i64 er), (20, .bool false), (131, .bool false)]) 190 G a w | 4 => SG (s4 sa L pc bx v5 v6 v7 ++ [(16, .int .i64 er), (18, .int .i64 er), (20, .bool false), (132, .bool false)]) 190 G a w | 5 => SG (s4 sa L pc bx v5 v6 v7 ++ [(18, .int .i64 er), (20, .bool false), (132, .bool false), (133, .int .i64 er)]) 190 G a w | 6 => SG (s4 sa L pc bx v5 v6 v7 ++ [(20, .bool false), (132, .bool false), (133, .int .i64 er), (134, .int .i64 er)]) 190 G a w | 7 => SG (s4 sa L pc bx v5 v6 v7 ++ [(20, .bool false), (132, .bool false), (135, .bool false)]) 190 G a w | 8 => SG (s4 sa L pc bx v5 v6 v7 ++ [(20, .bool false), (136, .bool false)]) 190 G a w | 9 => SG (s4 sa L pc bx v5 v6 v7 ++ [(20, .bool false), (137, .bool false)]) 190 G a w | 10 => SG (s4 sa L pc bx v5 v6 v7 ++ [(20, .bool false), (137, .bool false), (138, .agg #[.int .i64 l0, .int .i64 l1, .int .i64 l2, .int .i64 l3])]) 190 G a w | 11 => SG (s4 sa L pc bx v5 v6 v7 ++ [(20, .bool false), (137, .bool false), (138, .agg #[.int .i64 l0, .int .i64 l1, .int .i64 l2, .int .i64 l3]), (139, v5)]) 190 G a w | 12 => SG (s4 sa L pc bx v5 v6 v7 ++ [(20, .bool false), (137, .bool false), (140, .bool false)]) 190 G a w | 13 => SG (s4 sa L pc bx v5 v6 v7 ++ [(137, .bool false), (140, .bool false), (141, .bool false)]) 190 G a w | 14 => SG (s4 sa L pc bx v5 v6 v7 ++ [(137, .bool false), (140, .bool false), (142, .bool false)]) 190 G a w | 15 => SG (s4 sa L pc bx v5 v6 v7 ++ [(137, .bool false), (140, .bool false), (142, .bool false)]) 190 G a w | 16 => SG (s4 sa L pc bx v5 v6 v7 ++ [(137, .bool false), (140, .bool false), (142, .bool false)]) 190 G a w | 17 => SG (s4 sa L pc bx v5 v6 v7 ++ [(137, .bool false), (140, .bool false), (145, .bool false)]) 190 G a w | 18 => SG (s4 sa L pc bx v5 v6 v7 ++ [(137, .bool false), (140, .bool false), (146, .bool false)]) 190 G a w | 19 => SG (s4 sa L pc bx v5 v6 v7 ++ [(137, .bool false), (140, .bool false), (146, .bool false)]) 190 G a w | 20 => SG (s4 sa L pc bx v5 v6 v7 ++ [(137, .bool false), (140, .bool false), (146, .bool false)]) 190 G a w | 21 => SG (s4 sa L pc bx v5 v6 v7 ++ [(137, .bool false), (140, .bool false), (146, .bool false)]) 190 G a w | 22 => SG (s4 sa L pc bx v5 v6 v7 ++ [(137, .bool false), (140, .bool false), (150, .bool false)]) 190 G a w | 23 => SG (s4 sa L pc bx v5 v6 v7 ++ [(137, .bool false), (151, .bool false)]) 190 G a w | _ => SG (s4 sa L pc bx v5 v6 v7 ++ [(152, .bool false)]) 190 G a w) (show SG _ _ G a w from h0.sub (by intro p hp; simp only [List.mem_append, List.mem_cons, List.not_mem_nil, or_false] at hp ⊢; rcases hp with hp | hp | hp | hp | hp | hp <;> simp [hp])) ⟨?_, ?_, ?_, ?_, ?_, ?_, ?_, ?_, ?_, ?_, ?_, ?_, ?_, ?_, ?_, ?_, ?_, ?_, ?_, ?_, ?_, ?_, ?_, ?_, trivial⟩ ?_
  · intro a w hI
    have hI : SG _ _ G a w := hI
    have e15 := hI.g 15 rfl
    go_simp
    exact hI.put (d := 129) (by decide) (by simp) hI.wp
  · intro a w hI
    have hI : SG _ _ G a w := hI
    have e17 := hI.g 17 rfl
    go_simp
    exact hI.put (d := 130) (by decide) (by simp) hI.wp
  · intro a w hI
    have hI : SG _ _ G a w := hI
    have e129 := hI.g 129 rfl
    have e130 := hI.g 130 rfl
    go_simp
    exact hI.put (d := 131) (by decide) (by simp) hI.wp
  · intro a w hI
    have hI : SG _ _ G a w := hI
    have e131 := hI.g 131 rfl
    go_simp
    exact hI.put (d := 132) (by decide) (by simp) hI.wp
  · intro a w hI
    have hI : SG _ _ G a w := hI
    have e16 := hI.g 16 rfl
    have e132 := hI.g 132 rfl
    have f132 := slot_bool e132
    go_simp
    exact hI.put (d := 133) (by decide) (by simp) hI.wp
  · intro a w hI
    have hI : SG _ _ G a w := hI
    have e18 := hI.g 18 rfl
    have e132 := hI.g 132 rfl
    have f132 := slot_bool e132
    go_simp
    exact hI.put (d := 134) (by decide) (by simp) hI.wp
  · intro a w hI
    have hI : SG _ _ G a w := hI
    have e133 := hI.g 133 rfl
    have e134 := hI.g 134 rfl
    have e132 := hI.g 132 rfl
    have f132 := slot_bool e132
    go_simp
    exact hI.put (d := 135) (by decide) (by simp) hI.wp
  · intro a w hI
    have hI : SG _ _ G a w := hI
    have e132 := hI.g 132 rfl
    have e135 := hI.g 135 rfl
    go_simp
    exact hI.put (d := 136) (by decide) (by simp) hI.wp
  · intro a w hI
    have hI : SG _ _ G a w := hI
    have e136 := hI.g 136 rfl
    go_simp
    exact hI.put (d := 137) (by decide) (by simp) hI.wp
  · intro a w hI
    have hI : SG _ _ G a w := hI
    have e3 := hI.g 3 rfl
    have e137 := hI.g 137 rfl
    have f137 := slot_bool e137
    have cc0 := k0 w hI.wp
    have cc1 := k1 w hI.wp
    have cc2 := k2 w hI.wp
    have cc3 := k3 w hI.wp
    go_simp
    exact hI.put (d := 138) (by decide) (by simp) hI.wp
  · intro a w hI
    have hI : SG _ _ G a w := hI
    have e5 := hI.g 5 rfl
    have e137 := hI.g 137 rfl
    have f137 := slot_bool e137
    go_simp
    exact hI.put (d := 139) (by decide) (by simp) hI.wp
  · intro a w hI
    have hI : SG _ _ G a w := hI
    have e138 := hI.g 138 rfl
    have e139 := hI.g 139 rfl
    have e137 := hI.g 137 rfl
    have f137 := slot_bool e137
    go_simp
    refine ⟨trivial, fun h => (by cases h), (hc (n - 1) w hI.wp).mono ?_⟩
    rintro e w' ⟨rfl, hb2⟩
    exact hI.put (d := 140) (by decide) (by simp) (hS _ _ hI.wp hb2)
  · intro a w hI
    have hI : SG _ _ G a w := hI
    have e20 := hI.g 20 rfl
    have e137 := hI.g 137 rfl
    have f137 := slot_bool e137
    go_simp
    exact hI.put (d := 141) (by decide) (by simp) hI.wp
  · intro a w hI
    have hI : SG _ _ G a w := hI
    have e141 := hI.g 141 rfl
    have e137 := hI.g 137 rfl
    have f137 := slot_bool e137
    go_simp
    exact hI.put (d := 142) (by decide) (by simp) hI.wp
  · intro a w hI
    have hI : SG _ _ G a w := hI
    have e142 := hI.g 142 rfl
    have f142 := slot_bool e142
    go_simp
    exact hI.put (d := 143) (by decide) (by simp) hI.wp
  · intro a w hI
    have hI : SG _ _ G a w := hI
    have e142 := hI.g 142 rfl
    have f142 := slot_bool e142
    go_simp
    exact hI.put (d := 144) (by decide) (by simp) hI.wp
  · intro a w hI
    have hI : SG _ _ G a w := hI
    have e142 := hI.g 142 rfl
    have e137 := hI.g 137 rfl
    have f137 := slot_bool e137
    go_simp
    exact hI.put (d := 145) (by decide) (by simp) hI.wp
  · intro a w hI
    have hI : SG _ _ G a w := hI
    have e145 := hI.g 145 rfl
    have e137 := hI.g 137 rfl
    have f137 := slot_bool e137
    go_simp
    exact hI.put (d := 146) (by decide) (by simp) hI.wp
  · intro a w hI
    have hI : SG _ _ G a w := hI
    have e146 := hI.g 146 rfl
    have f146 := slot_bool e146
    go_simp
    exact hI.put (d := 147) (by decide) (by simp) hI.wp
  · intro a w hI
    have hI : SG _ _ G a w := hI
    have e146 := hI.g 146 rfl
    have f146 := slot_bool e146
    go_simp
    exact hI.put (d := 148) (by decide) (by simp) hI.wp
  · intro a w hI
    have hI : SG _ _ G a w := hI
    have e146 := hI.g 146 rfl
    have f146 := slot_bool e146
    go_simp
    exact hI.put (d := 149) (by decide) (by simp) hI.wp
  · intro a w hI
    have hI : SG _ _ G a w := hI
    have e146 := hI.g 146 rfl
    have e137 := hI.g 137 rfl
    have f137 := slot_bool e137
    go_simp
    exact hI.put (d := 150) (by decide) (by simp) hI.wp
  · intro a w hI
    have hI : SG _ _ G a w := hI
    have e140 := hI.g 140 rfl
    have e150 := hI.g 150 rfl
    have e137 := hI.g 137 rfl
    have f137 := slot_bool e137
    go_simp
    exact hI.put (d := 151) (by decide) (by simp) hI.wp
  · intro a w hI
    have hI : SG _ _ G a w := hI
    have e137 := hI.g 137 rfl
    have e151 := hI.g 151 rfl
    go_simp
    exact hI.put (d := 152) (by decide) (by simp) hI.wp
  · intro a w hI
    have hI : SG _ _ G a w := hI
    exact hQ a w hI
set_option maxRecDepth 100000 in
set_option maxHeartbeats 4000000 in
theorem tu28b (n : Nat) {G : World → Prop} (hS : Stable G) (sa : Option Addr) (L pc : Nat) (bx : Nat) (v5 v6 v7 : Value) (l0 l1 l2 l3 : Int) (t : Int) (s er : Int) (he : (er == 0) = false)  (k0 : ∀ w, G w → w.cell? ⟨bx, 0, none⟩ = some (.int .i64 l0)) (k1 : ∀ w, G w → w.cell? ⟨bx, 1, none⟩ = some (.int .i64 l1)) (k2 : ∀ w, G w → w.cell? ⟨bx, 2, none⟩ = some (.int .i64 l2)) (k3 : ∀ w, G w → w.cell? ⟨bx, 3, none⟩ = some (.int .i64 l3)) (hc : ∀ m w, G w → CallsIn Fence.wide m Try.prog 21 #[.agg #[.int .i64 l0, .int .i64 l1, .int .i64 l2, .int .i64 l3], v5] w fun e w' => e = .returned (.bool false) ∧ Below w.heap.size w w') (Q : Exit → Act → World → Prop) (a : Act) (w : World) (h0 : SG (s4 sa L pc bx v5 v6 v7 ++ [(15, .int .i64 s), (16, .int .i64 er), (17, .int .i64 s), (18, .int .i64 er), (19, .int .i64 t), (20, .bool true)]) 190 G a w)
    (hQ : ∀ a w, SG (s4 sa L pc bx v5 v6 v7 ++ [(152, .bool false)]) 190 G a w → Q .normal a w) : (regOf 28 C5).wpIn Fence.wide n Try.prog Q a w := by
  simp only [regOf, C5, Try.f5, Option.getD, Nat.reduceBEq, Bool.false_eq_true, if_true, if_false]
  refine region_sq (fun k_ a w => match k_ with | 0 => SG (s4 sa L pc bx v5 v6 v7 ++ [(15, .int .i64 s), (16, .int .i64 er), (17, .int .i64 s), (18, .int .i64 er), (20, .bool true)]) 190 G a w | 1 => SG (s4 sa L pc bx v5 v6 v7 ++ [(16, .int .i64 er), (17, .int .i64 s), (18, .int .i64 er), (20, .bool true), (129, .int .i64 s)]) 190 G a w | 2 => SG (s4 sa L pc bx v5 v6 v7 ++ [(16, .int .i64 er), (18, .int .i64 er), (20, .bool true), (129, .int .i64 s), (130, .int .i64 s)]) 190 G a w | 3 => SG (s4 sa L pc bx v5 v6 v7 ++ [(16, .int .i64 er), (18, .int .i64 er), (20, .bool true), (131, .bool false)]) 190 G a w | 4 => SG (s4 sa L pc bx v5 v6 v7 ++ [(16, .int .i64 er), (18, .int .i64 er), (20, .bool true), (132, .bool false)]) 190 G a w | 5 => SG (s4 sa L pc bx v5 v6 v7 ++ [(18, .int .i64 er), (20, .bool true), (132, .bool false), (133, .int .i64 er)]) 190 G a w | 6 => SG (s4 sa L pc bx v5 v6 v7 ++ [(18, .int .i64 er), (20, .bool true), (132, .bool false), (133, .int .i64 er), (134, .int .i64 er)]) 190 G a w | 7 => SG (s4 sa L pc bx v5 v6 v7 ++ [(18, .int .i64 er), (20, .bool true), (132, .bool false), (135, .bool false)]) 190 G a w | 8 => SG (s4 sa L pc bx v5 v6 v7 ++ [(18, .int .i64 er), (20, .bool true), (136, .bool false)]) 190 G a w | 9 => SG (s4 sa L pc bx v5 v6 v7 ++ [(18, .int .i64 er), (20, .bool true), (137, .bool false)]) 190 G a w | 10 => SG (s4 sa L pc bx v5 v6 v7 ++ [(18, .int .i64 er), (20, .bool true), (137, .bool false), (138, .agg #[.int .i64 l0, .int .i64 l1, .int .i64 l2, .int .i64 l3])]) 190 G a w | 11 => SG (s4 sa L pc bx v5 v6 v7 ++ [(18, .int .i64 er), (20, .bool true), (137, .bool false), (138, .agg #[.int .i64 l0, .int .i64 l1, .int .i64 l2, .int .i64 l3]), (139, v5)]) 190 G a w | 12 => SG (s4 sa L pc bx v5 v6 v7 ++ [(18, .int .i64 er), (20, .bool true), (137, .bool false), (140, .bool false)]) 190 G a w | 13 => SG (s4 sa L pc bx v5 v6 v7 ++ [(18, .int .i64 er), (137, .bool false), (140, .bool false), (141, .bool true)]) 190 G a w | 14 => SG (s4 sa L pc bx v5 v6 v7 ++ [(18, .int .i64 er), (137, .bool false), (140, .bool false), (142, .bool true)]) 190 G a w | 15 => SG (s4 sa L pc bx v5 v6 v7 ++ [(137, .bool false), (140, .bool false), (142, .bool true), (143, .int .i64 er)]) 190 G a w | 16 => SG (s4 sa L pc bx v5 v6 v7 ++ [(137, .bool false), (140, .bool false), (142, .bool true), (144, .bool false)]) 190 G a w | 17 => SG (s4 sa L pc bx v5 v6 v7 ++ [(137, .bool false), (140, .bool false), (145, .bool false)]) 190 G a w | 18 => SG (s4 sa L pc bx v5 v6 v7 ++ [(137, .bool false), (140, .bool false), (146, .bool false)]) 190 G a w | 19 => SG (s4 sa L pc bx v5 v6 v7 ++ [(137, .bool false), (140, .bool false), (146, .bool false)]) 190 G a w | 20 => SG (s4 sa L pc bx v5 v6 v7 ++ [(137, .bool false), (140, .bool false), (146, .bool false)]) 190 G a w | 21 => SG (s4 sa L pc bx v5 v6 v7 ++ [(137, .bool false), (140, .bool false), (146, .bool false)]) 190 G a w | 22 => SG (s4 sa L pc bx v5 v6 v7 ++ [(137, .bool false), (140, .bool false), (150, .bool false)]) 190 G a w | 23 => SG (s4 sa L pc bx v5 v6 v7 ++ [(137, .bool false), (151, .bool false)]) 190 G a w | _ => SG (s4 sa L pc bx v5 v6 v7 ++ [(152, .bool false)]) 190 G a w) (show SG _ _ G a w from h0.sub (by intro p hp; simp only [List.mem_append, List.mem_cons, List.not_mem_nil, or_false] at hp ⊢; rcases hp with hp | hp | hp | hp | hp | hp <;> simp [hp])) ⟨?_, ?_, ?_, ?_, ?_, ?_, ?_, ?_, ?_, ?_, ?_, ?_, ?_, ?_, ?_, ?_, ?_, ?_, ?_, ?_, ?_, ?_, ?_, ?_, trivial⟩ ?_
  · intro a w hI
    have hI : SG _ _ G a w := hI
    have e15 := hI.g 15 rfl
    go_simp
    exact hI.put (d := 129) (by decide) (by simp) hI.wp
  · intro a w hI
    have hI : SG _ _ G a w := hI
    have e17 := hI.g 17 rfl
    go_simp
    exact hI.put (d := 130) (by decide) (by simp) hI.wp
  · intro a w hI
    have hI : SG _ _ G a w := hI
    have e129 := hI.g 129 rfl
    have e130 := hI.g 130 rfl
    go_simp
    exact hI.put (d := 131) (by decide) (by simp) hI.wp
  · intro a w hI
    have hI : SG _ _ G a w := hI
    have e131 := hI.g 131 rfl
    go_simp
    exact hI.put (d := 132) (by decide) (by simp) hI.wp
  · intro a w hI
    have hI : SG _ _ G a w := hI
    have e16 := hI.g 16 rfl
    have e132 := hI.g 132 rfl
    have f132 := slot_bool e132
    go_simp
    exact hI.put (d := 133) (by decide) (by simp) hI.wp
  · intro a w hI
    have hI : SG _ _ G a w := hI
    have e18 := hI.g 18 rfl
    have e132 := hI.g 132 rfl
    have f132 := slot_bool e132
    go_simp
    exact hI.put (d := 134) (by decide) (by simp) hI.wp
  · intro a w hI
    have hI : SG _ _ G a w := hI
    have e133 := hI.g 133 rfl
    have e134 := hI.g 134 rfl
    have e132 := hI.g 132 rfl
    have f132 := slot_bool e132
    go_simp
    exact hI.put (d := 135) (by decide) (by simp) hI.wp
  · intro a w hI
    have hI : SG _ _ G a w := hI
    have e132 := hI.g 132 rfl
    have e135 := hI.g 135 rfl
    go_simp
    exact hI.put (d := 136) (by decide) (by simp) hI.wp
  · intro a w hI
    have hI : SG _ _ G a w := hI
    have e136 := hI.g 136 rfl
    go_simp
    exact hI.put (d := 137) (by decide) (by simp) hI.wp
  · intro a w hI
    have hI : SG _ _ G a w := hI
    have e3 := hI.g 3 rfl
    have e137 := hI.g 137 rfl
    have f137 := slot_bool e137
    have cc0 := k0 w hI.wp
    have cc1 := k1 w hI.wp
    have cc2 := k2 w hI.wp
    have cc3 := k3 w hI.wp
    go_simp
    exact hI.put (d := 138) (by decide) (by simp) hI.wp
  · intro a w hI
    have hI : SG _ _ G a w := hI
    have e5 := hI.g 5 rfl
    have e137 := hI.g 137 rfl
    have f137 := slot_bool e137
    go_simp
    exact hI.put (d := 139) (by decide) (by simp) hI.wp
  · intro a w hI
    have hI : SG _ _ G a w := hI
    have e138 := hI.g 138 rfl
    have e139 := hI.g 139 rfl
    have e137 := hI.g 137 rfl
    have f137 := slot_bool e137
    go_simp
    refine ⟨trivial, fun h => (by cases h), (hc (n - 1) w hI.wp).mono ?_⟩
    rintro e w' ⟨rfl, hb2⟩
    exact hI.put (d := 140) (by decide) (by simp) (hS _ _ hI.wp hb2)
  · intro a w hI
    have hI : SG _ _ G a w := hI
    have e20 := hI.g 20 rfl
    have e137 := hI.g 137 rfl
    have f137 := slot_bool e137
    go_simp
    exact hI.put (d := 141) (by decide) (by simp) hI.wp
  · intro a w hI
    have hI : SG _ _ G a w := hI
    have e141 := hI.g 141 rfl
    have e137 := hI.g 137 rfl
    have f137 := slot_bool e137
    go_simp
    exact hI.put (d := 142) (by decide) (by simp) hI.wp
  · intro a w hI
    have hI : SG _ _ G a w := hI
    have e18 := hI.g 18 rfl
    have e142 := hI.g 142 rfl
    have f142 := slot_bool e142
    go_simp
    exact hI.put (d := 143) (by decide) (by simp) hI.wp
  · intro a w hI
    have hI : SG _ _ G a w := hI
    have e143 := hI.g 143 rfl
    have e142 := hI.g 142 rfl
    have f142 := slot_bool e142
    go_simp
    exact hI.put (d := 144) (by decide) (by simp) hI.wp
  · intro a w hI
    have hI : SG _ _ G a w := hI
    have e142 := hI.g 142 rfl
    have e144 := hI.g 144 rfl
    have e137 := hI.g 137 rfl
    have f137 := slot_bool e137
    go_simp
    exact hI.put (d := 145) (by decide) (by simp) hI.wp
  · intro a w hI
    have hI : SG _ _ G a w := hI
    have e145 := hI.g 145 rfl
    have e137 := hI.g 137 rfl
    have f137 := slot_bool e137
    go_simp
    exact hI.put (d := 146) (by decide) (by simp) hI.wp
  · intro a w hI
    have hI : SG _ _ G a w := hI
    have e146 := hI.g 146 rfl
    have f146 := slot_bool e146
    go_simp
    exact hI.put (d := 147) (by decide) (by simp) hI.wp
  · intro a w hI
    have hI : SG _ _ G a w := hI
    have e146 := hI.g 146 rfl
    have f146 := slot_bool e146
    go_simp
    exact hI.put (d := 148) (by decide) (by simp) hI.wp
  · intro a w hI
    have hI : SG _ _ G a w := hI
    have e146 := hI.g 146 rfl
    have f146 := slot_bool e146
    go_simp
    exact hI.put (d := 149) (by decide) (by simp) hI.wp
  · intro a w hI
    have hI : SG _ _ G a w := hI
    have e146 := hI.g 146 rfl
    have e137 := hI.g 137 rfl
    have f137 := slot_bool e137
    go_simp
    exact hI.put (d := 150) (by decide) (by simp) hI.wp
  · intro a w hI
    have hI : SG _ _ G a w := hI
    have e140 := hI.g 140 rfl
    have e150 := hI.g 150 rfl
    have e137 := hI.g 137 rfl
    have f137 := slot_bool e137
    go_simp
    exact hI.put (d := 151) (by decide) (by simp) hI.wp
  · intro a w hI
    have hI : SG _ _ G a w := hI
    have e137 := hI.g 137 rfl
    have e151 := hI.g 151 rfl
    go_simp
    exact hI.put (d := 152) (by decide) (by simp) hI.wp
  · intro a w hI
    have hI : SG _ _ G a w := hI
    exact hQ a w hI
set_option maxRecDepth 100000 in
set_option maxHeartbeats 4000000 in
theorem tu28c (n : Nat) {G : World → Prop} (hS : Stable G) (sa : Option Addr) (L pc : Nat) (bx : Nat) (v5 v6 v7 : Value) (l0 l1 l2 l3 : Int) (t : Int) (s : Int)  (k0 : ∀ w, G w → w.cell? ⟨bx, 0, none⟩ = some (.int .i64 l0)) (k1 : ∀ w, G w → w.cell? ⟨bx, 1, none⟩ = some (.int .i64 l1)) (k2 : ∀ w, G w → w.cell? ⟨bx, 2, none⟩ = some (.int .i64 l2)) (k3 : ∀ w, G w → w.cell? ⟨bx, 3, none⟩ = some (.int .i64 l3)) (hc : ∀ m w, G w → CallsIn Fence.wide m Try.prog 21 #[.agg #[.int .i64 l0, .int .i64 l1, .int .i64 l2, .int .i64 l3], v5] w fun e w' => e = .returned (.bool (t == s)) ∧ Below w.heap.size w w') (Q : Exit → Act → World → Prop) (a : Act) (w : World) (h0 : SG (s4 sa L pc bx v5 v6 v7 ++ [(15, .int .i64 s), (16, .int .i64 0), (17, .int .i64 s), (18, .int .i64 0), (19, .int .i64 t), (20, .bool true)]) 190 G a w)
    (hQ : ∀ a w, SG (s4 sa L pc bx v5 v6 v7 ++ [(152, .bool false)]) 190 G a w → Q .normal a w) : (regOf 28 C5).wpIn Fence.wide n Try.prog Q a w := by
  simp only [regOf, C5, Try.f5, Option.getD, Nat.reduceBEq, Bool.false_eq_true, if_true, if_false]
  refine region_sq (fun k_ a w => match k_ with | 0 => SG (s4 sa L pc bx v5 v6 v7 ++ [(15, .int .i64 s), (16, .int .i64 0), (17, .int .i64 s), (18, .int .i64 0), (19, .int .i64 t), (20, .bool true)]) 190 G a w | 1 => SG (s4 sa L pc bx v5 v6 v7 ++ [(16, .int .i64 0), (17, .int .i64 s), (18, .int .i64 0), (19, .int .i64 t), (20, .bool true), (129, .int .i64 s)]) 190 G a w | 2 => SG (s4 sa L pc bx v5 v6 v7 ++ [(16, .int .i64 0), (17, .int .i64 s), (18, .int .i64 0), (19, .int .i64 t), (20, .bool true), (129, .int .i64 s), (130, .int .i64 s)]) 190 G a w | 3 => SG (s4 sa L pc bx v5 v6 v7 ++ [(16, .int .i64 0), (17, .int .i64 s), (18, .int .i64 0), (19, .int .i64 t), (20, .bool true), (131, .bool false)]) 190 G a w | 4 => SG (s4 sa L pc bx v5 v6 v7 ++ [(16, .int .i64 0), (17, .int .i64 s), (18, .int .i64 0), (19, .int .i64 t), (20, .bool true), (132, .bool false)]) 190 G a w | 5 => SG (s4 sa L pc bx v5 v6 v7 ++ [(17, .int .i64 s), (18, .int .i64 0), (19, .int .i64 t), (20, .bool true), (132, .bool false), (133, .int .i64 0)]) 190 G a w | 6 => SG (s4 sa L pc bx v5 v6 v7 ++ [(17, .int .i64 s), (18, .int .i64 0), (19, .int .i64 t), (20, .bool true), (132, .bool false), (133, .int .i64 0), (134, .int .i64 0)]) 190 G a w | 7 => SG (s4 sa L pc bx v5 v6 v7 ++ [(17, .int .i64 s), (18, .int .i64 0), (19, .int .i64 t), (20, .bool true), (132, .bool false), (135, .bool false)]) 190 G a w | 8 => SG (s4 sa L pc bx v5 v6 v7 ++ [(17, .int .i64 s), (18, .int .i64 0), (19, .int .i64 t), (20, .bool true), (136, .bool false)]) 190 G a w | 9 => SG (s4 sa L pc bx v5 v6 v7 ++ [(17, .int .i64 s), (18, .int .i64 0), (19, .int .i64 t), (20, .bool true), (137, .bool false)]) 190 G a w | 10 => SG (s4 sa L pc bx v5 v6 v7 ++ [(17, .int .i64 s), (18, .int .i64 0), (19, .int .i64 t), (20, .bool true), (137, .bool false), (138, .agg #[.int .i64 l0, .int .i64 l1, .int .i64 l2, .int .i64 l3])]) 190 G a w | 11 => SG (s4 sa L pc bx v5 v6 v7 ++ [(17, .int .i64 s), (18, .int .i64 0), (19, .int .i64 t), (20, .bool true), (137, .bool false), (138, .agg #[.int .i64 l0, .int .i64 l1, .int .i64 l2, .int .i64 l3]), (139, v5)]) 190 G a w | 12 => SG (s4 sa L pc bx v5 v6 v7 ++ [(17, .int .i64 s), (18, .int .i64 0), (19, .int .i64 t), (20, .bool true), (137, .bool false), (140, .bool (t == s))]) 190 G a w | 13 => SG (s4 sa L pc bx v5 v6 v7 ++ [(17, .int .i64 s), (18, .int .i64 0), (19, .int .i64 t), (137, .bool false), (140, .bool (t == s)), (141, .bool true)]) 190 G a w | 14 => SG (s4 sa L pc bx v5 v6 v7 ++ [(17, .int .i64 s), (18, .int .i64 0), (19, .int .i64 t), (137, .bool false), (140, .bool (t == s)), (142, .bool true)]) 190 G a w | 15 => SG (s4 sa L pc bx v5 v6 v7 ++ [(17, .int .i64 s), (19, .int .i64 t), (137, .bool false), (140, .bool (t == s)), (142, .bool true), (143, .int .i64 0)]) 190 G a w | 16 => SG (s4 sa L pc bx v5 v6 v7 ++ [(17, .int .i64 s), (19, .int .i64 t), (137, .bool false), (140, .bool (t == s)), (142, .bool true), (144, .bool true)]) 190 G a w | 17 => SG (s4 sa L pc bx v5 v6 v7 ++ [(17, .int .i64 s), (19, .int .i64 t), (137, .bool false), (140, .bool (t == s)), (145, .bool true)]) 190 G a w | 18 => SG (s4 sa L pc bx v5 v6 v7 ++ [(17, .int .i64 s), (19, .int .i64 t), (137, .bool false), (140, .bool (t == s)), (146, .bool true)]) 190 G a w | 19 => SG (s4 sa L pc bx v5 v6 v7 ++ [(17, .int .i64 s), (137, .bool false), (140, .bool (t == s)), (146, .bool true), (147, .int .i64 t)]) 190 G a w | 20 => SG (s4 sa L pc bx v5 v6 v7 ++ [(137, .bool false), (140, .bool (t == s)), (146, .bool true), (147, .int .i64 t), (148, .int .i64 s)]) 190 G a w | 21 => SG (s4 sa L pc bx v5 v6 v7 ++ [(137, .bool false), (140, .bool (t == s)), (146, .bool true), (149, .bool (t == s))]) 190 G a w | 22 => SG (s4 sa L pc bx v5 v6 v7 ++ [(137, .bool false), (140, .bool (t == s)), (150, .bool (t == s))]) 190 G a w | 23 => SG (s4 sa L pc bx v5 v6 v7 ++ [(137, .bool false), (151, .bool false)]) 190 G a w | _ => SG (s4 sa L pc bx v5 v6 v7 ++ [(152, .bool false)]) 190 G a w) (show SG _ _ G a w from h0) ⟨?_, ?_, ?_, ?_, ?_, ?_, ?_, ?_, ?_, ?_, ?_, ?_, ?_, ?_, ?_, ?_, ?_, ?_, ?_, ?_, ?_, ?_, ?_, ?_, trivial⟩ ?_
  · intro a w hI
    have hI : SG _ _ G a w := hI
    have e15 := hI.g 15 rfl
    go_simp
    exact hI.put (d := 129) (by decide) (by simp) hI.wp
  · intro a w hI
    have hI : SG _ _ G a w := hI
    have e17 := hI.g 17 rfl
    go_simp
    exact hI.put (d := 130) (by decide) (by simp) hI.wp
  · intro a w hI
    have hI : SG _ _ G a w := hI
    have e129 := hI.g 129 rfl
    have e130 := hI.g 130 rfl
    go_simp
    exact hI.put (d := 131) (by decide) (by simp) hI.wp
  · intro a w hI
    have hI : SG _ _ G a w := hI
    have e131 := hI.g 131 rfl
    go_simp
    exact hI.put (d := 132) (by decide) (by simp) hI.wp
  · intro a w hI
    have hI : SG _ _ G a w := hI
    have e16 := hI.g 16 rfl
    have e132 := hI.g 132 rfl
    have f132 := slot_bool e132
    go_simp
    exact hI.put (d := 133) (by decide) (by simp) hI.wp
  · intro a w hI
    have hI : SG _ _ G a w := hI
    have e18 := hI.g 18 rfl
    have e132 := hI.g 132 rfl
    have f132 := slot_bool e132
    go_simp
    exact hI.put (d := 134) (by decide) (by simp) hI.wp
  · intro a w hI
    have hI : SG _ _ G a w := hI
    have e133 := hI.g 133 rfl
    have e134 := hI.g 134 rfl
    have e132 := hI.g 132 rfl
    have f132 := slot_bool e132
    go_simp
    exact hI.put (d := 135) (by decide) (by simp) hI.wp
  · intro a w hI
    have hI : SG _ _ G a w := hI
    have e132 := hI.g 132 rfl
    have e135 := hI.g 135 rfl
    go_simp
    exact hI.put (d := 136) (by decide) (by simp) hI.wp
  · intro a w hI
    have hI : SG _ _ G a w := hI
    have e136 := hI.g 136 rfl
    go_simp
    exact hI.put (d := 137) (by decide) (by simp) hI.wp
  · intro a w hI
    have hI : SG _ _ G a w := hI
    have e3 := hI.g 3 rfl
    have e137 := hI.g 137 rfl
    have f137 := slot_bool e137
    have cc0 := k0 w hI.wp
    have cc1 := k1 w hI.wp
    have cc2 := k2 w hI.wp
    have cc3 := k3 w hI.wp
    go_simp
    exact hI.put (d := 138) (by decide) (by simp) hI.wp
  · intro a w hI
    have hI : SG _ _ G a w := hI
    have e5 := hI.g 5 rfl
    have e137 := hI.g 137 rfl
    have f137 := slot_bool e137
    go_simp
    exact hI.put (d := 139) (by decide) (by simp) hI.wp
  · intro a w hI
    have hI : SG _ _ G a w := hI
    have e138 := hI.g 138 rfl
    have e139 := hI.g 139 rfl
    have e137 := hI.g 137 rfl
    have f137 := slot_bool e137
    go_simp
    refine ⟨trivial, fun h => (by cases h), (hc (n - 1) w hI.wp).mono ?_⟩
    rintro e w' ⟨rfl, hb2⟩
    exact hI.put (d := 140) (by decide) (by simp) (hS _ _ hI.wp hb2)
  · intro a w hI
    have hI : SG _ _ G a w := hI
    have e20 := hI.g 20 rfl
    have e137 := hI.g 137 rfl
    have f137 := slot_bool e137
    go_simp
    exact hI.put (d := 141) (by decide) (by simp) hI.wp
  · intro a w hI
    have hI : SG _ _ G a w := hI
    have e141 := hI.g 141 rfl
    have e137 := hI.g 137 rfl
    have f137 := slot_bool e137
    go_simp
    exact hI.put (d := 142) (by decide) (by simp) hI.wp
  · intro a w hI
    have hI : SG _ _ G a w := hI
    have e18 := hI.g 18 rfl
    have e142 := hI.g 142 rfl
    have f142 := slot_bool e142
    go_simp
    exact hI.put (d := 143) (by decide) (by simp) hI.wp
  · intro a w hI
    have hI : SG _ _ G a w := hI
    have e143 := hI.g 143 rfl
    have e142 := hI.g 142 rfl
    have f142 := slot_bool e142
    go_simp
    exact hI.put (d := 144) (by decide) (by simp) hI.wp
  · intro a w hI
    have hI : SG _ _ G a w := hI
    have e142 := hI.g 142 rfl
    have e144 := hI.g 144 rfl
    have e137 := hI.g 137 rfl
    have f137 := slot_bool e137
    go_simp
    exact hI.put (d := 145) (by decide) (by simp) hI.wp
  · intro a w hI
    have hI : SG _ _ G a w := hI
    have e145 := hI.g 145 rfl
    have e137 := hI.g 137 rfl
    have f137 := slot_bool e137
    go_simp
    exact hI.put (d := 146) (by decide) (by simp) hI.wp
  · intro a w hI
    have hI : SG _ _ G a w := hI
    have e19 := hI.g 19 rfl
    have e146 := hI.g 146 rfl
    have f146 := slot_bool e146
    go_simp
    exact hI.put (d := 147) (by decide) (by simp) hI.wp
  · intro a w hI
    have hI : SG _ _ G a w := hI
    have e17 := hI.g 17 rfl
    have e146 := hI.g 146 rfl
    have f146 := slot_bool e146
    go_simp
    exact hI.put (d := 148) (by decide) (by simp) hI.wp
  · intro a w hI
    have hI : SG _ _ G a w := hI
    have e147 := hI.g 147 rfl
    have e148 := hI.g 148 rfl
    have e146 := hI.g 146 rfl
    have f146 := slot_bool e146
    go_simp
    exact hI.put (d := 149) (by decide) (by simp) hI.wp
  · intro a w hI
    have hI : SG _ _ G a w := hI
    have e146 := hI.g 146 rfl
    have e149 := hI.g 149 rfl
    have e137 := hI.g 137 rfl
    have f137 := slot_bool e137
    go_simp
    exact hI.put (d := 150) (by decide) (by simp) hI.wp
  · intro a w hI
    have hI : SG _ _ G a w := hI
    have e140 := hI.g 140 rfl
    have e150 := hI.g 150 rfl
    have e137 := hI.g 137 rfl
    have f137 := slot_bool e137
    go_simp
    exact hI.put (d := 151) (by decide) (by simp) hI.wp
  · intro a w hI
    have hI : SG _ _ G a w := hI
    have e137 := hI.g 137 rfl
    have e151 := hI.g 151 rfl
    go_simp
    exact hI.put (d := 152) (by decide) (by simp) hI.wp
  · intro a w hI
    have hI : SG _ _ G a w := hI
    exact hQ a w hI
set_option maxRecDepth 100000 in
set_option maxHeartbeats 4000000 in
theorem tu30 (n : Nat) (W : World) (sa : Option Addr) (L pc : Nat) (bx : Nat) (v5 v6 v7 : Value)  (Q : Exit → Act → World → Prop) (a : Act) (h0 : SR (s4 sa L pc bx v5 v6 v7) 190 [] W a W)
    (hQ : ∀ a, SR (s4 sa L pc bx v5 v6 v7 ++ [(21, .int .i64 0)]) 190 [] (W) a (W) → Q .normal a (W)) : (regOf 30 C5).wpIn Fence.wide n Try.prog Q a W := by
  simp only [regOf, C5, Try.f5, Option.getD, Nat.reduceBEq, Bool.false_eq_true, if_true, if_false]
  refine region_sq (fun k_ a w => match k_ with | 0 => SR (s4 sa L pc bx v5 v6 v7) 190 [] (W) a w | _ => SR (s4 sa L pc bx v5 v6 v7 ++ [(21, .int .i64 0)]) 190 [] (W) a w) (show SR _ _ _ _ a W from h0) ⟨?_, trivial⟩ ?_
  · intro a w hI
    have hI : SR _ _ _ _ a w := hI
    have hw : w = W := hI.wp
    subst hw
    go_simp
    exact hI.put (d := 21) (by decide) (by simp)
  · intro a w hI
    have hI : SR _ _ _ _ a w := hI
    have hw : w = W := hI.wp
    subst hw
    exact hQ a hI
set_option maxRecDepth 100000 in
set_option maxHeartbeats 4000000 in
theorem tu31 (n : Nat) (W : World) (sa : Option Addr) (L pc : Nat) (bx : Nat) (v5 v6 v7 : Value) (i : Nat)  (Q : Exit → Act → World → Prop) (a : Act) (h0 : SR (s4 sa L pc bx v5 v6 v7 ++ [(21, .int .i64 i)]) 190 [] W a W)
    (hQ : ∀ a, SR (s4 sa L pc bx v5 v6 v7 ++ [(21, .int .i64 i), (156, .bool (decide ((i : Int) < L)))]) 190 [] (W) a (W) → Q .normal a (W)) : (regOf 31 C5).wpIn Fence.wide n Try.prog Q a W := by
  simp only [regOf, C5, Try.f5, Option.getD, Nat.reduceBEq, Bool.false_eq_true, if_true, if_false]
  refine region_sq (fun k_ a w => match k_ with | 0 => SR (s4 sa L pc bx v5 v6 v7 ++ [(21, .int .i64 i)]) 190 [] (W) a w | 1 => SR (s4 sa L pc bx v5 v6 v7 ++ [(21, .int .i64 i), (153, .int .i64 i)]) 190 [] (W) a w | 2 => SR (s4 sa L pc bx v5 v6 v7 ++ [(21, .int .i64 i), (153, .int .i64 i), (154, .slice sa L pc)]) 190 [] (W) a w | 3 => SR (s4 sa L pc bx v5 v6 v7 ++ [(21, .int .i64 i), (153, .int .i64 i), (155, .int .i64 L)]) 190 [] (W) a w | _ => SR (s4 sa L pc bx v5 v6 v7 ++ [(21, .int .i64 i), (156, .bool (decide ((i : Int) < L)))]) 190 [] (W) a w) (show SR _ _ _ _ a W from h0) ⟨?_, ?_, ?_, ?_, trivial⟩ ?_
  · intro a w hI
    have hI : SR _ _ _ _ a w := hI
    have e21 := hI.g 21 rfl
    have hw : w = W := hI.wp
    subst hw
    go_simp
    exact hI.put (d := 153) (by decide) (by simp)
  · intro a w hI
    have hI : SR _ _ _ _ a w := hI
    have e0 := hI.g 0 rfl
    have hw : w = W := hI.wp
    subst hw
    go_simp
    exact hI.put (d := 154) (by decide) (by simp)
  · intro a w hI
    have hI : SR _ _ _ _ a w := hI
    have e154 := hI.g 154 rfl
    have hw : w = W := hI.wp
    subst hw
    go_simp
    exact hI.put (d := 155) (by decide) (by simp)
  · intro a w hI
    have hI : SR _ _ _ _ a w := hI
    have e153 := hI.g 153 rfl
    have e155 := hI.g 155 rfl
    have hw : w = W := hI.wp
    subst hw
    go_simp
    exact hI.put (d := 156) (by decide) (by simp)
  · intro a w hI
    have hI : SR _ _ _ _ a w := hI
    have hw : w = W := hI.wp
    subst hw
    exact hQ a hI
set_option maxRecDepth 100000 in
set_option maxHeartbeats 4000000 in
theorem tu32 (n : Nat) (W : World) (sa : Option Addr) (L pc : Nat) (bx : Nat) (v5 v6 v7 : Value) (i : Nat) (hi : i < L) (hL : L ≤ 4294967296) (Q : Exit → Act → World → Prop) (a : Act) (h0 : SR (s4 sa L pc bx v5 v6 v7 ++ [(21, .int .i64 i)]) 190 [] W a W)
    (hQ : ∀ a, SR (s4 sa L pc bx v5 v6 v7 ++ [(21, .int .i64 ((i : Int) + 1))]) 190 [] (W) a (W) → Q .normal a (W)) : (regOf 32 C5).wpIn Fence.wide n Try.prog Q a W := by
  simp only [regOf, C5, Try.f5, Option.getD, Nat.reduceBEq, Bool.false_eq_true, if_true, if_false]
  refine region_sq (fun k_ a w => match k_ with | 0 => SR (s4 sa L pc bx v5 v6 v7 ++ [(21, .int .i64 i)]) 190 [] (W) a w | 1 => SR (s4 sa L pc bx v5 v6 v7 ++ [(157, .int .i64 i)]) 190 [] (W) a w | 2 => SR (s4 sa L pc bx v5 v6 v7 ++ [(158, .int .i64 ((i : Int) + 1))]) 190 [] (W) a w | _ => SR (s4 sa L pc bx v5 v6 v7 ++ [(21, .int .i64 ((i : Int) + 1))]) 190 [] (W) a w) (show SR _ _ _ _ a W from h0) ⟨?_, ?_, ?_, trivial⟩ ?_
  · intro a w hI
    have hI : SR _ _ _ _ a w := hI
    have e21 := hI.g 21 rfl
    have hw : w = W := hI.wp
    subst hw
    go_simp
    exact hI.put (d := 157) (by decide) (by simp)
  · intro a w hI
    have hI : SR _ _ _ _ a w := hI
    have e157 := hI.g 157 rfl
    have hw : w = W := hI.wp
    subst hw
    have hw1 : IntKind.i64.wrap ((i : Int) + 1) = (i : Int) + 1 := IntWalk.i64_in _ (by omega)
    go_simp
    exact hI.put (d := 158) (by decide) (by simp)
  · intro a w hI
    have hI : SR _ _ _ _ a w := hI
    have e158 := hI.g 158 rfl
    have hw : w = W := hI.wp
    subst hw
    go_simp
    exact hI.put (d := 21) (by decide) (by simp)
  · intro a w hI
    have hI : SR _ _ _ _ a w := hI
    have hw : w = W := hI.wp
    subst hw
    exact hQ a hI
abbrev s6 (sa : Option Addr) (L pc : Nat) (bx : Nat) (g5 g6 g7 c5 c6 c7 : Nat) (i : Nat)  : List (Nat × Value) := [(0, .slice sa L pc), (3, .pointer (some ⟨bx, 0, none⟩)), (5, .slice (some ⟨g5, 0, none⟩) L c5), (6, .slice (some ⟨g6, 0, none⟩) L c6), (7, .slice (some ⟨g7, 0, none⟩) L c7), (21, .int .i64 i)]
set_option maxRecDepth 100000 in
set_option maxHeartbeats 4000000 in
theorem tu33n (n : Nat) {G : World → Prop} (hS : Stable G) (sa : Option Addr) (L pc : Nat) (bx : Nat) (g5 g6 g7 c5 c6 c7 : Nat) (i : Nat) (p : Sp3) (hp : okS p) (hi : i < L)  (m0 : ∀ w, G w → w.cell? ⟨g5, i * 4, none⟩ = some (.int .i64 (p.1))) (m1 : ∀ w, G w → w.cell? ⟨g5, i * 4 + 1, none⟩ = some (.int .i64 (p.2.1))) (m2 : ∀ w, G w → w.cell? ⟨g5, i * 4 + 2, none⟩ = some (.int .i64 (p.2.2))) (n0 : ∀ w, G w → w.cell? ⟨g6, i * 3, none⟩ = some (.int .i64 (p.1))) (n1 : ∀ w, G w → w.cell? ⟨g6, i * 3 + 1, none⟩ = some (.int .i64 (p.2.1))) (n2 : ∀ w, G w → w.cell? ⟨g6, i * 3 + 2, none⟩ = some (.int .i64 (p.2.2))) (d0 : ∀ w, G w → w.cell? ⟨g7, i, none⟩ = some (.pointer none)) (Q : Exit → Act → World → Prop) (a : Act) (w : World) (h0 : SG (s6 sa L pc bx g5 g6 g7 c5 c6 c7 i) 190 G a w)
    (hQ : ∀ a w, SG (s6 sa L pc bx g5 g6 g7 c5 c6 c7 i ++ [(188, .bool false)]) 190 G a w → Q .normal a w) : (regOf 33 C5).wpIn Fence.wide n Try.prog Q a w := by
  have hmix : Try.prog.follows .mixedOrders = true := by kernel_rfl
  simp only [regOf, C5, Try.f5, Option.getD, Nat.reduceBEq, Bool.false_eq_true, if_true, if_false]
  refine region_inv (RI (s6 sa L pc bx g5 g6 g7 c5 c6 c7 i)
    [(0, 159, .slice (some ⟨g5, 0, none⟩) L c5), (1, 160, .int .i64 i), (2, 161, .pointer (some ⟨g5, i * 4, none⟩)), (3, 162, .pointer (some ⟨g5, i * 4, none⟩)), (4, 163, .agg #[.int .i64 (p.1), .int .i64 (p.2.1), .int .i64 (p.2.2)]), (5, 164, .slice (some ⟨g6, 0, none⟩) L c6), (6, 165, .int .i64 i), (7, 166, .pointer (some ⟨g6, i * 3, none⟩)), (8, 167, .agg #[.int .i64 (p.1), .int .i64 (p.2.1), .int .i64 (p.2.2)]), (9, 168, .bool false), (10, 169, .bool false), (11, 170, .slice (some ⟨g7, 0, none⟩) L c7), (12, 171, .int .i64 i), (13, 172, .pointer (some ⟨g7, i, none⟩)), (14, 173, .pointer none), (15, 174, .bool false), (16, 175, .bool false), (28, 187, .bool false), (29, 188, .bool false)] 190 [] (fun _ w => G w)) hmix (by kernel_rfl) ⟨h0.size, h0.defers, h0.kn, by simp, hS _ _ h0.wp (Below.refl _ _).drew⟩ ⟨?_, ?_, ?_, ?_, ?_, ?_, ?_, ?_, ?_, ?_, ?_, ?_, ?_, ?_, ?_, ?_, ?_, ?_, ?_, ?_, ?_, ?_, ?_, ?_, ?_, ?_, ?_, ?_, ?_, ?_, trivial⟩ ?_
  · intro Xs a w hX hdep hC hI
    have e5 := hI.gi 5 rfl
    go_simp
    exact hI.put' (k := 0) (d := 159) (by decide) (by simp) (by simp) (by simp) hI.wp
  · intro Xs a w hX hdep hC hI
    have e21 := hI.gi 21 rfl
    go_simp
    exact hI.put' (k := 1) (d := 160) (by decide) (by simp) (by simp) (by simp) hI.wp
  · intro Xs a w hX hdep hC hI
    have x0 : Xs 0 = true := hdep ⟨0, .data⟩ (by simp) rfl
    have e159 := hI.gk 0 rfl x0
    have x1 : Xs 1 = true := hdep ⟨1, .data⟩ (by simp) rfl
    have e160 := hI.gk 1 rfl x1
    have q1_2 : (0 : Int) ≤ i := by omega
    have q2_2 : (i : Int) < L := by omega
    go_simp
    exact hI.put' (k := 2) (d := 161) (by decide) (by simp) (by simp) (by simp) hI.wp
  · intro Xs a w hX hdep hC hI
    have x2 : Xs 2 = true := hdep ⟨2, .data⟩ (by simp) rfl
    have e161 := hI.gk 2 rfl x2
    go_simp
    exact hI.put' (k := 3) (d := 162) (by decide) (by simp) (by simp) (by simp) hI.wp
  · intro Xs a w hX hdep hC hI
    have x3 : Xs 3 = true := hdep ⟨3, .data⟩ (by simp) rfl
    have e162 := hI.gk 3 rfl x3
    have cc0 := m0 w hI.wp
    have cc1 := m1 w hI.wp
    have cc2 := m2 w hI.wp
    go_simp
    exact hI.put' (k := 4) (d := 163) (by decide) (by simp) (by simp) (by simp) hI.wp
  · intro Xs a w hX hdep hC hI
    have e6 := hI.gi 6 rfl
    go_simp
    exact hI.put' (k := 5) (d := 164) (by decide) (by simp) (by simp) (by simp) hI.wp
  · intro Xs a w hX hdep hC hI
    have e21 := hI.gi 21 rfl
    go_simp
    exact hI.put' (k := 6) (d := 165) (by decide) (by simp) (by simp) (by simp) hI.wp
  · intro Xs a w hX hdep hC hI
    have x5 : Xs 5 = true := hdep ⟨5, .data⟩ (by simp) rfl
    have e164 := hI.gk 5 rfl x5
    have x6 : Xs 6 = true := hdep ⟨6, .data⟩ (by simp) rfl
    have e165 := hI.gk 6 rfl x6
    have q1_7 : (0 : Int) ≤ i := by omega
    have q2_7 : (i : Int) < L := by omega
    go_simp
    exact hI.put' (k := 7) (d := 166) (by decide) (by simp) (by simp) (by simp) hI.wp
  · intro Xs a w hX hdep hC hI
    have x7 : Xs 7 = true := hdep ⟨7, .data⟩ (by simp) rfl
    have e166 := hI.gk 7 rfl x7
    have cc0 := n0 w hI.wp
    have cc1 := n1 w hI.wp
    have cc2 := n2 w hI.wp
    go_simp
    exact hI.put' (k := 8) (d := 167) (by decide) (by simp) (by simp) (by simp) hI.wp
  · intro Xs a w hX hdep hC hI
    have x4 : Xs 4 = true := hdep ⟨4, .data⟩ (by simp) rfl
    have e163 := hI.gk 4 rfl x4
    have x8 : Xs 8 = true := hdep ⟨8, .data⟩ (by simp) rfl
    have e167 := hI.gk 8 rfl x8
    rw [if_pos (by simp [Region.wanted])]
    refine operIn_bin .neq (.tmp 163) (.tmp 167) 33 33 rfl (.bool false) (by rw [eval_tmp, eval_tmp, e163, e167]; exact guard33 _ _ _ _ _ _) (by rw [eval_tmp, eval_tmp, e163, e167]; exact neq33s hp _) ?_
    exact hI.put' (k := 9) (d := 168) (by decide) (by simp) (by simp) (by simp) hI.wp
  · intro Xs a w hX hdep hC hI
    have x9 : Xs 9 = true := hdep ⟨9, .data⟩ (by simp) rfl
    have e168 := hI.gk 9 rfl x9
    go_simp
    exact hI.put' (k := 10) (d := 169) (by decide) (by simp) (by simp) (by simp) hI.wp
  · intro Xs a w hX hdep hC hI
    have e7 := hI.gi 7 rfl
    have x10 : Xs 10 = true := hdep ⟨10, .guard⟩ (by simp) rfl
    have e169 := hI.gk 10 rfl x10
    have f169 := slot_bool e169
    go_simp
    exact hI.put' (k := 11) (d := 170) (by decide) (by simp) (by simp) (by simp) hI.wp
  · intro Xs a w hX hdep hC hI
    have e21 := hI.gi 21 rfl
    have x10 : Xs 10 = true := hdep ⟨10, .guard⟩ (by simp) rfl
    have e169 := hI.gk 10 rfl x10
    have f169 := slot_bool e169
    go_simp
    exact hI.put' (k := 12) (d := 171) (by decide) (by simp) (by simp) (by simp) hI.wp
  · intro Xs a w hX hdep hC hI
    have x11 : Xs 11 = true := hdep ⟨11, .data⟩ (by simp) rfl
    have e170 := hI.gk 11 rfl x11
    have x12 : Xs 12 = true := hdep ⟨12, .data⟩ (by simp) rfl
    have e171 := hI.gk 12 rfl x12
    have x10 : Xs 10 = true := hdep ⟨10, .guard⟩ (by simp) rfl
    have e169 := hI.gk 10 rfl x10
    have f169 := slot_bool e169
    have q1_13 : (0 : Int) ≤ i := by omega
    have q2_13 : (i : Int) < L := by omega
    go_simp
    exact hI.put' (k := 13) (d := 172) (by decide) (by simp) (by simp) (by simp) hI.wp
  · intro Xs a w hX hdep hC hI
    have x13 : Xs 13 = true := hdep ⟨13, .data⟩ (by simp) rfl
    have e172 := hI.gk 13 rfl x13
    have x10 : Xs 10 = true := hdep ⟨10, .guard⟩ (by simp) rfl
    have e169 := hI.gk 10 rfl x10
    have f169 := slot_bool e169
    have cc0 := d0 w hI.wp
    go_simp
    exact hI.put' (k := 14) (d := 173) (by decide) (by simp) (by simp) (by simp) hI.wp
  · intro Xs a w hX hdep hC hI
    have x14 : Xs 14 = true := hdep ⟨14, .data⟩ (by simp) rfl
    have e173 := hI.gk 14 rfl x14
    have x10 : Xs 10 = true := hdep ⟨10, .guard⟩ (by simp) rfl
    have e169 := hI.gk 10 rfl x10
    have f169 := slot_bool e169
    go_simp
    exact hI.put' (k := 15) (d := 174) (by decide) (by simp) (by simp) (by simp) hI.wp
  · intro Xs a w hX hdep hC hI
    have x15 : Xs 15 = true := hdep ⟨15, .data⟩ (by simp) rfl
    have e174 := hI.gk 15 rfl x15
    have x10 : Xs 10 = true := hdep ⟨10, .chain⟩ (by simp) rfl
    have e169 := hI.gk 10 rfl x10
    have f169 := slot_bool e169
    go_simp
    exact hI.put' (k := 16) (d := 175) (by decide) (by simp) (by simp) (by simp) hI.wp
  · intro Xs a w hX hdep hC hI
    have x16 : Xs 16 = true := hdep ⟨16, .guard⟩ (by simp) rfl
    have e175 := hI.gk 16 rfl x16
    have f175 := slot_bool e175
    go_simp
    exact hI.put' (k := 17) (d := 176) (by decide) (by simp) (by simp) (by simp) hI.wp
  · intro Xs a w hX hdep hC hI
    have x16 : Xs 16 = true := hdep ⟨16, .guard⟩ (by simp) rfl
    have e175 := hI.gk 16 rfl x16
    have f175 := slot_bool e175
    go_simp
    exact hI.put' (k := 18) (d := 177) (by decide) (by simp) (by simp) (by simp) hI.wp
  · intro Xs a w hX hdep hC hI
    have x16 : Xs 16 = true := hdep ⟨16, .guard⟩ (by simp) rfl
    have e175 := hI.gk 16 rfl x16
    have f175 := slot_bool e175
    go_simp
    exact hI.put' (k := 19) (d := 178) (by decide) (by simp) (by simp) (by simp) hI.wp
  · intro Xs a w hX hdep hC hI
    have x16 : Xs 16 = true := hdep ⟨16, .guard⟩ (by simp) rfl
    have e175 := hI.gk 16 rfl x16
    have f175 := slot_bool e175
    go_simp
    exact hI.put' (k := 20) (d := 179) (by decide) (by simp) (by simp) (by simp) hI.wp
  · intro Xs a w hX hdep hC hI
    have x16 : Xs 16 = true := hdep ⟨16, .guard⟩ (by simp) rfl
    have e175 := hI.gk 16 rfl x16
    have f175 := slot_bool e175
    go_simp
    exact hI.put' (k := 21) (d := 180) (by decide) (by simp) (by simp) (by simp) hI.wp
  · intro Xs a w hX hdep hC hI
    have x16 : Xs 16 = true := hdep ⟨16, .guard⟩ (by simp) rfl
    have e175 := hI.gk 16 rfl x16
    have f175 := slot_bool e175
    go_simp
    exact hI.put' (k := 22) (d := 181) (by decide) (by simp) (by simp) (by simp) hI.wp
  · intro Xs a w hX hdep hC hI
    have x16 : Xs 16 = true := hdep ⟨16, .guard⟩ (by simp) rfl
    have e175 := hI.gk 16 rfl x16
    have f175 := slot_bool e175
    go_simp
    exact hI.put' (k := 23) (d := 182) (by decide) (by simp) (by simp) (by simp) hI.wp
  · intro Xs a w hX hdep hC hI
    have x16 : Xs 16 = true := hdep ⟨16, .guard⟩ (by simp) rfl
    have e175 := hI.gk 16 rfl x16
    have f175 := slot_bool e175
    go_simp
    exact hI.put' (k := 24) (d := 183) (by decide) (by simp) (by simp) (by simp) hI.wp
  · intro Xs a w hX hdep hC hI
    have x16 : Xs 16 = true := hdep ⟨16, .guard⟩ (by simp) rfl
    have e175 := hI.gk 16 rfl x16
    have f175 := slot_bool e175
    go_simp
    exact hI.put' (k := 25) (d := 184) (by decide) (by simp) (by simp) (by simp) hI.wp
  · intro Xs a w hX hdep hC hI
    have x16 : Xs 16 = true := hdep ⟨16, .chain⟩ (by simp) rfl
    have e175 := hI.gk 16 rfl x16
    have f175 := slot_bool e175
    go_simp
    refine ⟨trivial, ?_⟩
    exact hI.put' (k := 26) (d := 185) (by decide) (by simp) (by simp) (by simp) hI.wp
  · intro Xs a w hX hdep hC hI
    have x16 : Xs 16 = true := hdep ⟨16, .guard⟩ (by simp) rfl
    have e175 := hI.gk 16 rfl x16
    have f175 := slot_bool e175
    go_simp
    exact hI.put' (k := 27) (d := 186) (by decide) (by simp) (by simp) (by simp) hI.wp
  · intro Xs a w hX hdep hC hI
    have x16 : Xs 16 = true := hdep ⟨16, .data⟩ (by simp) rfl
    have e175 := hI.gk 16 rfl x16
    have x10 : Xs 10 = true := hdep ⟨10, .guard⟩ (by simp) rfl
    have e169 := hI.gk 10 rfl x10
    have f169 := slot_bool e169
    go_simp
    exact hI.put' (k := 28) (d := 187) (by decide) (by simp) (by simp) (by simp) hI.wp
  · intro Xs a w hX hdep hC hI
    have x10 : Xs 10 = true := hdep ⟨10, .data⟩ (by simp) rfl
    have e169 := hI.gk 10 rfl x10
    have x28 : Xs 28 = true := hdep ⟨28, .data⟩ (by simp) rfl
    have e187 := hI.gk 28 rfl x28
    go_simp
    exact hI.put' (k := 29) (d := 188) (by decide) (by simp) (by simp) (by simp) hI.wp
  · intro Xs a w hX hI
    refine hQ a w ⟨hI.size, hI.defers, ?_, hI.wp⟩
    simp only [s6, List.cons_append, List.nil_append, List.mem_cons, List.not_mem_nil, or_false, forall_eq_or_imp, forall_eq]
    exact ⟨hI.gi 0 rfl, hI.gi 3 rfl, hI.gi 5 rfl, hI.gi 6 rfl, hI.gi 7 rfl, hI.gi 21 rfl, hI.gk 29 rfl (hX 29 (by simp))⟩
set_option maxRecDepth 100000 in
set_option maxHeartbeats 4000000 in
theorem tu33p (n : Nat) {G : World → Prop} (hS : Stable G) (sa : Option Addr) (L pc : Nat) (bx : Nat) (g5 g6 g7 c5 c6 c7 : Nat) (i : Nat) (p : Sp3) (r1 r2 : Nat) (hp : okS p) (hi : i < L)  (m0 : ∀ w, G w → w.cell? ⟨g5, i * 4, none⟩ = some (.int .i64 (p.1))) (m1 : ∀ w, G w → w.cell? ⟨g5, i * 4 + 1, none⟩ = some (.int .i64 (p.2.1))) (m2 : ∀ w, G w → w.cell? ⟨g5, i * 4 + 2, none⟩ = some (.int .i64 (p.2.2))) (n0 : ∀ w, G w → w.cell? ⟨g6, i * 3, none⟩ = some (.int .i64 (p.1))) (n1 : ∀ w, G w → w.cell? ⟨g6, i * 3 + 1, none⟩ = some (.int .i64 (p.2.1))) (n2 : ∀ w, G w → w.cell? ⟨g6, i * 3 + 2, none⟩ = some (.int .i64 (p.2.2))) (d0 : ∀ w, G w → w.cell? ⟨g7, i, none⟩ = some (.pointer (some ⟨r2, 0, none⟩))) (m3 : ∀ w, G w → w.cell? ⟨g5, i * 4 + 3, none⟩ = some (.pointer (some ⟨r1, 0, none⟩))) (hc : ∀ m w, G w → CallsIn Fence.wide m Try.prog 22 #[.pointer (some ⟨r1, 0, none⟩), .pointer (some ⟨r2, 0, none⟩)] w fun e w' => e = .returned (.bool true) ∧ Below w.heap.size w w') (Q : Exit → Act → World → Prop) (a : Act) (w : World) (h0 : SG (s6 sa L pc bx g5 g6 g7 c5 c6 c7 i) 190 G a w)
    (hQ : ∀ a w, SG (s6 sa L pc bx g5 g6 g7 c5 c6 c7 i ++ [(188, .bool false)]) 190 G a w → Q .normal a w) : (regOf 33 C5).wpIn Fence.wide n Try.prog Q a w := by
  have hmix : Try.prog.follows .mixedOrders = true := by kernel_rfl
  simp only [regOf, C5, Try.f5, Option.getD, Nat.reduceBEq, Bool.false_eq_true, if_true, if_false]
  refine region_inv (RI (s6 sa L pc bx g5 g6 g7 c5 c6 c7 i)
    [(0, 159, .slice (some ⟨g5, 0, none⟩) L c5), (1, 160, .int .i64 i), (2, 161, .pointer (some ⟨g5, i * 4, none⟩)), (3, 162, .pointer (some ⟨g5, i * 4, none⟩)), (4, 163, .agg #[.int .i64 (p.1), .int .i64 (p.2.1), .int .i64 (p.2.2)]), (5, 164, .slice (some ⟨g6, 0, none⟩) L c6), (6, 165, .int .i64 i), (7, 166, .pointer (some ⟨g6, i * 3, none⟩)), (8, 167, .agg #[.int .i64 (p.1), .int .i64 (p.2.1), .int .i64 (p.2.2)]), (9, 168, .bool false), (10, 169, .bool false), (11, 170, .slice (some ⟨g7, 0, none⟩) L c7), (12, 171, .int .i64 i), (13, 172, .pointer (some ⟨g7, i, none⟩)), (14, 173, .pointer (some ⟨r2, 0, none⟩)), (15, 174, .bool true), (16, 175, .bool true), (17, 176, .slice (some ⟨g5, 0, none⟩) L c5), (18, 177, .int .i64 i), (19, 178, .pointer (some ⟨g5, i * 4, none⟩)), (20, 179, .pointer (some ⟨g5, i * 4 + 3, none⟩)), (21, 180, .pointer (some ⟨r1, 0, none⟩)), (22, 181, .slice (some ⟨g7, 0, none⟩) L c7), (23, 182, .int .i64 i), (24, 183, .pointer (some ⟨g7, i, none⟩)), (25, 184, .pointer (some ⟨r2, 0, none⟩)), (26, 185, .bool true), (27, 186, .bool false), (28, 187, .bool false), (29, 188, .bool false)] 190 [] (fun _ w => G w)) hmix (by kernel_rfl) ⟨h0.size, h0.defers, h0.kn, by simp, hS _ _ h0.wp (Below.refl _ _).drew⟩ ⟨?_, ?_, ?_, ?_, ?_, ?_, ?_, ?_, ?_, ?_, ?_, ?_, ?_, ?_, ?_, ?_, ?_, ?_, ?_, ?_, ?_, ?_, ?_, ?_, ?_, ?_, ?_, ?_, ?_, ?_, trivial⟩ ?_
  · intro Xs a w hX hdep hC hI
    have e5 := hI.gi 5 rfl
    go_simp
    exact hI.put' (k := 0) (d := 159) (by decide) (by simp) (by simp) (by simp) hI.wp
  · intro Xs a w hX hdep hC hI
    have e21 := hI.gi 21 rfl
    go_simp
    exact hI.put' (k := 1) (d := 160) (by decide) (by simp) (by simp) (by simp) hI.wp
  · intro Xs a w hX hdep hC hI
    have x0 : Xs 0 = true := hdep ⟨0, .data⟩ (by simp) rfl
    have e159 := hI.gk 0 rfl x0
    have x1 : Xs 1 = true := hdep ⟨1, .data⟩ (by simp) rfl
    have e160 := hI.gk 1 rfl x1
    have q1_2 : (0 : Int) ≤ i := by omega
    have q2_2 : (i : Int) < L := by omega
    go_simp
    exact hI.put' (k := 2) (d := 161) (by decide) (by simp) (by simp) (by simp) hI.wp
  · intro Xs a w hX hdep hC hI
    have x2 : Xs 2 = true := hdep ⟨2, .data⟩ (by simp) rfl
    have e161 := hI.gk 2 rfl x2
    go_simp
    exact hI.put' (k := 3) (d := 162) (by decide) (by simp) (by simp) (by simp) hI.wp
  · intro Xs a w hX hdep hC hI
    have x3 : Xs 3 = true := hdep ⟨3, .data⟩ (by simp) rfl
    have e162 := hI.gk 3 rfl x3
    have cc0 := m0 w hI.wp
    have cc1 := m1 w hI.wp
    have cc2 := m2 w hI.wp
    go_simp
    exact hI.put' (k := 4) (d := 163) (by decide) (by simp) (by simp) (by simp) hI.wp
  · intro Xs a w hX hdep hC hI
    have e6 := hI.gi 6 rfl
    go_simp
    exact hI.put' (k := 5) (d := 164) (by decide) (by simp) (by simp) (by simp) hI.wp
  · intro Xs a w hX hdep hC hI
    have e21 := hI.gi 21 rfl
    go_simp
    exact hI.put' (k := 6) (d := 165) (by decide) (by simp) (by simp) (by simp) hI.wp
  · intro Xs a w hX hdep hC hI
    have x5 : Xs 5 = true := hdep ⟨5, .data⟩ (by simp) rfl
    have e164 := hI.gk 5 rfl x5
    have x6 : Xs 6 = true := hdep ⟨6, .data⟩ (by simp) rfl
    have e165 := hI.gk 6 rfl x6
    have q1_7 : (0 : Int) ≤ i := by omega
    have q2_7 : (i : Int) < L := by omega
    go_simp
    exact hI.put' (k := 7) (d := 166) (by decide) (by simp) (by simp) (by simp) hI.wp
  · intro Xs a w hX hdep hC hI
    have x7 : Xs 7 = true := hdep ⟨7, .data⟩ (by simp) rfl
    have e166 := hI.gk 7 rfl x7
    have cc0 := n0 w hI.wp
    have cc1 := n1 w hI.wp
    have cc2 := n2 w hI.wp
    go_simp
    exact hI.put' (k := 8) (d := 167) (by decide) (by simp) (by simp) (by simp) hI.wp
  · intro Xs a w hX hdep hC hI
    have x4 : Xs 4 = true := hdep ⟨4, .data⟩ (by simp) rfl
    have e163 := hI.gk 4 rfl x4
    have x8 : Xs 8 = true := hdep ⟨8, .data⟩ (by simp) rfl
    have e167 := hI.gk 8 rfl x8
    rw [if_pos (by simp [Region.wanted])]
    refine operIn_bin .neq (.tmp 163) (.tmp 167) 33 33 rfl (.bool false) (by rw [eval_tmp, eval_tmp, e163, e167]; exact guard33 _ _ _ _ _ _) (by rw [eval_tmp, eval_tmp, e163, e167]; exact neq33s hp _) ?_
    exact hI.put' (k := 9) (d := 168) (by decide) (by simp) (by simp) (by simp) hI.wp
  · intro Xs a w hX hdep hC hI
    have x9 : Xs 9 = true := hdep ⟨9, .data⟩ (by simp) rfl
    have e168 := hI.gk 9 rfl x9
    go_simp
    exact hI.put' (k := 10) (d := 169) (by decide) (by simp) (by simp) (by simp) hI.wp
  · intro Xs a w hX hdep hC hI
    have e7 := hI.gi 7 rfl
    have x10 : Xs 10 = true := hdep ⟨10, .guard⟩ (by simp) rfl
    have e169 := hI.gk 10 rfl x10
    have f169 := slot_bool e169
    go_simp
    exact hI.put' (k := 11) (d := 170) (by decide) (by simp) (by simp) (by simp) hI.wp
  · intro Xs a w hX hdep hC hI
    have e21 := hI.gi 21 rfl
    have x10 : Xs 10 = true := hdep ⟨10, .guard⟩ (by simp) rfl
    have e169 := hI.gk 10 rfl x10
    have f169 := slot_bool e169
    go_simp
    exact hI.put' (k := 12) (d := 171) (by decide) (by simp) (by simp) (by simp) hI.wp
  · intro Xs a w hX hdep hC hI
    have x11 : Xs 11 = true := hdep ⟨11, .data⟩ (by simp) rfl
    have e170 := hI.gk 11 rfl x11
    have x12 : Xs 12 = true := hdep ⟨12, .data⟩ (by simp) rfl
    have e171 := hI.gk 12 rfl x12
    have x10 : Xs 10 = true := hdep ⟨10, .guard⟩ (by simp) rfl
    have e169 := hI.gk 10 rfl x10
    have f169 := slot_bool e169
    have q1_13 : (0 : Int) ≤ i := by omega
    have q2_13 : (i : Int) < L := by omega
    go_simp
    exact hI.put' (k := 13) (d := 172) (by decide) (by simp) (by simp) (by simp) hI.wp
  · intro Xs a w hX hdep hC hI
    have x13 : Xs 13 = true := hdep ⟨13, .data⟩ (by simp) rfl
    have e172 := hI.gk 13 rfl x13
    have x10 : Xs 10 = true := hdep ⟨10, .guard⟩ (by simp) rfl
    have e169 := hI.gk 10 rfl x10
    have f169 := slot_bool e169
    have cc0 := d0 w hI.wp
    go_simp
    exact hI.put' (k := 14) (d := 173) (by decide) (by simp) (by simp) (by simp) hI.wp
  · intro Xs a w hX hdep hC hI
    have x14 : Xs 14 = true := hdep ⟨14, .data⟩ (by simp) rfl
    have e173 := hI.gk 14 rfl x14
    have x10 : Xs 10 = true := hdep ⟨10, .guard⟩ (by simp) rfl
    have e169 := hI.gk 10 rfl x10
    have f169 := slot_bool e169
    go_simp
    exact hI.put' (k := 15) (d := 174) (by decide) (by simp) (by simp) (by simp) hI.wp
  · intro Xs a w hX hdep hC hI
    have x15 : Xs 15 = true := hdep ⟨15, .data⟩ (by simp) rfl
    have e174 := hI.gk 15 rfl x15
    have x10 : Xs 10 = true := hdep ⟨10, .chain⟩ (by simp) rfl
    have e169 := hI.gk 10 rfl x10
    have f169 := slot_bool e169
    go_simp
    exact hI.put' (k := 16) (d := 175) (by decide) (by simp) (by simp) (by simp) hI.wp
  · intro Xs a w hX hdep hC hI
    have e5 := hI.gi 5 rfl
    have x16 : Xs 16 = true := hdep ⟨16, .guard⟩ (by simp) rfl
    have e175 := hI.gk 16 rfl x16
    have f175 := slot_bool e175
    go_simp
    exact hI.put' (k := 17) (d := 176) (by decide) (by simp) (by simp) (by simp) hI.wp
  · intro Xs a w hX hdep hC hI
    have e21 := hI.gi 21 rfl
    have x16 : Xs 16 = true := hdep ⟨16, .guard⟩ (by simp) rfl
    have e175 := hI.gk 16 rfl x16
    have f175 := slot_bool e175
    go_simp
    exact hI.put' (k := 18) (d := 177) (by decide) (by simp) (by simp) (by simp) hI.wp
  · intro Xs a w hX hdep hC hI
    have x17 : Xs 17 = true := hdep ⟨17, .data⟩ (by simp) rfl
    have e176 := hI.gk 17 rfl x17
    have x18 : Xs 18 = true := hdep ⟨18, .data⟩ (by simp) rfl
    have e177 := hI.gk 18 rfl x18
    have x16 : Xs 16 = true := hdep ⟨16, .guard⟩ (by simp) rfl
    have e175 := hI.gk 16 rfl x16
    have f175 := slot_bool e175
    have q1_19 : (0 : Int) ≤ i := by omega
    have q2_19 : (i : Int) < L := by omega
    go_simp
    exact hI.put' (k := 19) (d := 178) (by decide) (by simp) (by simp) (by simp) hI.wp
  · intro Xs a w hX hdep hC hI
    have x19 : Xs 19 = true := hdep ⟨19, .data⟩ (by simp) rfl
    have e178 := hI.gk 19 rfl x19
    have x16 : Xs 16 = true := hdep ⟨16, .guard⟩ (by simp) rfl
    have e175 := hI.gk 16 rfl x16
    have f175 := slot_bool e175
    go_simp
    exact hI.put' (k := 20) (d := 179) (by decide) (by simp) (by simp) (by simp) hI.wp
  · intro Xs a w hX hdep hC hI
    have x20 : Xs 20 = true := hdep ⟨20, .data⟩ (by simp) rfl
    have e179 := hI.gk 20 rfl x20
    have x16 : Xs 16 = true := hdep ⟨16, .guard⟩ (by simp) rfl
    have e175 := hI.gk 16 rfl x16
    have f175 := slot_bool e175
    have cc0 := m3 w hI.wp
    go_simp
    exact hI.put' (k := 21) (d := 180) (by decide) (by simp) (by simp) (by simp) hI.wp
  · intro Xs a w hX hdep hC hI
    have e7 := hI.gi 7 rfl
    have x16 : Xs 16 = true := hdep ⟨16, .guard⟩ (by simp) rfl
    have e175 := hI.gk 16 rfl x16
    have f175 := slot_bool e175
    go_simp
    exact hI.put' (k := 22) (d := 181) (by decide) (by simp) (by simp) (by simp) hI.wp
  · intro Xs a w hX hdep hC hI
    have e21 := hI.gi 21 rfl
    have x16 : Xs 16 = true := hdep ⟨16, .guard⟩ (by simp) rfl
    have e175 := hI.gk 16 rfl x16
    have f175 := slot_bool e175
    go_simp
    exact hI.put' (k := 23) (d := 182) (by decide) (by simp) (by simp) (by simp) hI.wp
  · intro Xs a w hX hdep hC hI
    have x22 : Xs 22 = true := hdep ⟨22, .data⟩ (by simp) rfl
    have e181 := hI.gk 22 rfl x22
    have x23 : Xs 23 = true := hdep ⟨23, .data⟩ (by simp) rfl
    have e182 := hI.gk 23 rfl x23
    have x16 : Xs 16 = true := hdep ⟨16, .guard⟩ (by simp) rfl
    have e175 := hI.gk 16 rfl x16
    have f175 := slot_bool e175
    have q1_24 : (0 : Int) ≤ i := by omega
    have q2_24 : (i : Int) < L := by omega
    go_simp
    exact hI.put' (k := 24) (d := 183) (by decide) (by simp) (by simp) (by simp) hI.wp
  · intro Xs a w hX hdep hC hI
    have x24 : Xs 24 = true := hdep ⟨24, .data⟩ (by simp) rfl
    have e183 := hI.gk 24 rfl x24
    have x16 : Xs 16 = true := hdep ⟨16, .guard⟩ (by simp) rfl
    have e175 := hI.gk 16 rfl x16
    have f175 := slot_bool e175
    have cc0 := d0 w hI.wp
    go_simp
    exact hI.put' (k := 25) (d := 184) (by decide) (by simp) (by simp) (by simp) hI.wp
  · intro Xs a w hX hdep hC hI
    have x21 : Xs 21 = true := hdep ⟨21, .data⟩ (by simp) rfl
    have e180 := hI.gk 21 rfl x21
    have x25 : Xs 25 = true := hdep ⟨25, .data⟩ (by simp) rfl
    have e184 := hI.gk 25 rfl x25
    have x16 : Xs 16 = true := hdep ⟨16, .chain⟩ (by simp) rfl
    have e175 := hI.gk 16 rfl x16
    have f175 := slot_bool e175
    go_simp
    refine ⟨trivial, fun h => (by cases h), (hc (n - 1) w hI.wp).mono ?_⟩
    rintro e w' ⟨rfl, hb2⟩
    exact hI.put' (k := 26) (d := 185) (by decide) (by simp) (by simp) (by simp) (hS _ _ hI.wp hb2)
  · intro Xs a w hX hdep hC hI
    have x26 : Xs 26 = true := hdep ⟨26, .data⟩ (by simp) rfl
    have e185 := hI.gk 26 rfl x26
    have x16 : Xs 16 = true := hdep ⟨16, .guard⟩ (by simp) rfl
    have e175 := hI.gk 16 rfl x16
    have f175 := slot_bool e175
    go_simp
    exact hI.put' (k := 27) (d := 186) (by decide) (by simp) (by simp) (by simp) hI.wp
  · intro Xs a w hX hdep hC hI
    have x16 : Xs 16 = true := hdep ⟨16, .data⟩ (by simp) rfl
    have e175 := hI.gk 16 rfl x16
    have x27 : Xs 27 = true := hdep ⟨27, .data⟩ (by simp) rfl
    have e186 := hI.gk 27 rfl x27
    have x10 : Xs 10 = true := hdep ⟨10, .guard⟩ (by simp) rfl
    have e169 := hI.gk 10 rfl x10
    have f169 := slot_bool e169
    go_simp
    exact hI.put' (k := 28) (d := 187) (by decide) (by simp) (by simp) (by simp) hI.wp
  · intro Xs a w hX hdep hC hI
    have x10 : Xs 10 = true := hdep ⟨10, .data⟩ (by simp) rfl
    have e169 := hI.gk 10 rfl x10
    have x28 : Xs 28 = true := hdep ⟨28, .data⟩ (by simp) rfl
    have e187 := hI.gk 28 rfl x28
    go_simp
    exact hI.put' (k := 29) (d := 188) (by decide) (by simp) (by simp) (by simp) hI.wp
  · intro Xs a w hX hI
    refine hQ a w ⟨hI.size, hI.defers, ?_, hI.wp⟩
    simp only [s6, List.cons_append, List.nil_append, List.mem_cons, List.not_mem_nil, or_false, forall_eq_or_imp, forall_eq]
    exact ⟨hI.gi 0 rfl, hI.gi 3 rfl, hI.gi 5 rfl, hI.gi 6 rfl, hI.gi 7 rfl, hI.gi 21 rfl, hI.gk 29 rfl (hX 29 (by simp))⟩
set_option maxRecDepth 100000 in
set_option maxHeartbeats 4000000 in
theorem tu35 (n : Nat) {G : World → Prop} (hS : Stable G)  (ha : ∀ m w, G w → CallsIn Fence.wide m Try.prog 11 #[] w fun e w' => e = .returned (.bool true) ∧ Below w.heap.size w w') (Q : Exit → Act → World → Prop) (a : Act) (w : World) (h0 : SG [] 190 G a w)
    (hQ : ∀ a w, SG [(4, .bool true)] 190 G a w → Q .normal a w) : (regOf 35 C5).wpIn Fence.wide n Try.prog Q a w := by
  simp only [regOf, C5, Try.f5, Option.getD, Nat.reduceBEq, Bool.false_eq_true, if_true, if_false]
  refine region_sq (fun k_ a w => match k_ with | 0 => SG [] 190 G a w | 1 => SG [(189, .bool true)] 190 G a w | _ => SG [(4, .bool true)] 190 G a w) (show SG _ _ G a w from h0) ⟨?_, ?_, trivial⟩ ?_
  · intro a w hI
    have hI : SG _ _ G a w := hI
    go_simp
    refine ⟨trivial, fun h => (by cases h), (ha (n - 1) w hI.wp).mono ?_⟩
    rintro e w' ⟨rfl, hb2⟩
    exact hI.put (d := 189) (by decide) (by simp) (hS _ _ hI.wp hb2)
  · intro a w hI
    have hI : SG _ _ G a w := hI
    have e189 := hI.g 189 rfl
    go_simp
    exact hI.put (d := 4) (by decide) (by simp) hI.wp
  · intro a w hI
    have hI : SG _ _ G a w := hI
    exact hQ a w hI
end Go.Proofs.Ytigblagodlfedaa
