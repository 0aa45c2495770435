/- Glow: the walk of a law. -/
import Derived.RangeFuncNested
import Derived.RangeFuncBound
import Derived.RangeFuncCalls
import Derived.RangeFuncLeaves
import Derived.Shelf.Abstract
import Derived.Shelf.RegionOpen
import Derived.WalkKit
import Derived.OwnWalkIn
import Derived.TacticsInMore
import Derived.LoopNIn
import Derived.LoopIn
import Derived.Lib.Hide
import Derived.IntWalk
import Derived.Maps.AppendAt
import Derived.Test.YtigblagodlfedaaHand

import Derived.Laws.CopyOwn
import Derived.Test.YtigblagodlfedaaK5
set_option linter.unusedVariables false
set_option linter.unusedSimpArgs false
namespace Go.Proofs.Ytigblagodlfedaa
open Go.RowKit Go.Shelf
attribute [local go_sem] Oper.semAt_some

noncomputable def C11 : Code := Try.f11.body.getD .skip
set_option maxRecDepth 100000 in
set_option maxHeartbeats 4000000 in
theorem aw0 (n : Nat) (W : World)  (Q : Exit → Act → World → Prop) (a : Act) (h0 : SR [] 24 [] W a W)
    (hQ : ∀ a, SR [] 24 [] (W) a (W) → Q .normal a (W)) : (regOf 0 C11).wpIn Fence.wide n Try.prog Q a W := by
  simp only [regOf, C11, Try.f11, Option.getD, Nat.reduceBEq, Bool.false_eq_true, if_true, if_false]
  refine region_sq (fun k_ a w => match k_ with | 0 => SR [] 24 [] (W) a w | _ => SR [] 24 [] (W) a w) (show SR _ _ _ _ a W from h0) ⟨?_, trivial⟩ ?_
  · intro a w hI
    have hI : SR _ _ _ _ a w := hI
    have hw : w = W := hI.wp
    subst hw
    go_simp
    exact hI.put (d := 0) (by decide) (by simp)
  · intro a w hI
    have hI : SR _ _ _ _ a w := hI
    have hw : w = W := hI.wp
    subst hw
    exact hQ a hI
set_option maxRecDepth 100000 in
set_option maxHeartbeats 8000000 in
theorem aw1 (n : Nat) {G : World → Prop}  {G1 : Nat → World → Prop} (hS1 : ∀ (r : Nat) , Stable (G1 r)) (hn : ∀ (m : Nat) (w : World), G w → CallsIn Fence.wide m Try.prog 25 #[] w fun e w' => ∃ r, e = .returned (.pointer (some ⟨r, 0, none⟩)) ∧ G1 r w') (hm : ∀ (r : Nat) (m : Nat) (w : World), (G1 r) w → CallsIn Fence.wide m Try.prog 13 #[.pointer (some ⟨r, 0, none⟩), .agg #[.int .i64 0, .int .i64 0, .int .i64 0]] w fun e w' => e = .returned (.tuple #[.int .i64 (-3840), .int .i64 0]) ∧ Below w.heap.size w w') (Q : Exit → Act → World → Prop) (a : Act) (w : World) (h0 : SG [] 24 G a w)
    (hQ : ∀ (r : Nat) a w, SG [(1, .int .i64 (-3840)), (2, .int .i64 0)] 24 (G1 r) a w → Q .normal a w) : (regOf 1 C11).wpIn Fence.wide n Try.prog Q a w := by
  simp only [regOf, C11, Try.f11, Option.getD, Nat.reduceBEq, Bool.false_eq_true, if_true, if_false]
  refine region_sq (fun k_ a w => match k_ with | 0 => SG [] 24 G a w | 1 => ∃ r, SG [(4, .pointer (some ⟨r, 0, none⟩))] 24 (G1 r) a w | 2 => ∃ r, SG [(4, .pointer (some ⟨r, 0, none⟩)), (5, .agg #[.int .i64 0, .int .i64 0, .int .i64 0])] 24 (G1 r) a w | 3 => ∃ r, SG [(6, .tuple #[.int .i64 (-3840), .int .i64 0])] 24 (G1 r) a w | 4 => ∃ r, SG [(3, .tuple #[.int .i64 (-3840), .int .i64 0])] 24 (G1 r) a w | 5 => ∃ r, SG [(3, .tuple #[.int .i64 (-3840), .int .i64 0]), (7, .int .i64 (-3840))] 24 (G1 r) a w | 6 => ∃ r, SG [(7, .int .i64 (-3840)), (8, .int .i64 0)] 24 (G1 r) a w | 7 => ∃ r, SG [(8, .int .i64 0), (1, .int .i64 (-3840))] 24 (G1 r) a w | _ => ∃ r, SG [(1, .int .i64 (-3840)), (2, .int .i64 0)] 24 (G1 r) a w) (show SG _ _ G a w from h0) ⟨?_, ?_, ?_, ?_, ?_, ?_, ?_, ?_, trivial⟩ ?_
  · intro a w hI
    have hI : SG _ _ _ a w := hI
    go_simp
    refine ⟨trivial, fun h => (by cases h), (hn (n - 1) w hI.wp).mono ?_⟩
    rintro e w' ⟨r, rfl, hg2⟩
    exact ⟨r, hI.put (d := 4) (by decide) (by simp) hg2⟩
  · rintro a w ⟨r, hI⟩
    go_simp
    exact ⟨r, hI.put (d := 5) (by decide) (by simp) hI.wp⟩
  · rintro a w ⟨r, hI⟩
    have e4 := hI.g 4 rfl
    have e5 := hI.g 5 rfl
    go_simp
    refine ⟨trivial, fun h => (by cases h), (hm r (n - 1) w hI.wp).mono ?_⟩
    rintro e w' ⟨rfl, hb2⟩
    exact ⟨r, hI.put (d := 6) (by decide) (by simp) (hS1 r _ _ hI.wp hb2)⟩
  · rintro a w ⟨r, hI⟩
    have e6 := hI.g 6 rfl
    go_simp
    exact ⟨r, hI.put (d := 3) (by decide) (by simp) hI.wp⟩
  · rintro a w ⟨r, hI⟩
    have e3 := hI.g 3 rfl
    go_simp
    exact ⟨r, hI.put (d := 7) (by decide) (by simp) hI.wp⟩
  · rintro a w ⟨r, hI⟩
    have e3 := hI.g 3 rfl
    go_simp
    exact ⟨r, hI.put (d := 8) (by decide) (by simp) hI.wp⟩
  · rintro a w ⟨r, hI⟩
    have e7 := hI.g 7 rfl
    go_simp
    exact ⟨r, hI.put (d := 1) (by decide) (by simp) hI.wp⟩
  · rintro a w ⟨r, hI⟩
    have e8 := hI.g 8 rfl
    go_simp
    exact ⟨r, hI.put (d := 2) (by decide) (by simp) hI.wp⟩
  · rintro a w ⟨r, hI⟩
    exact hQ r a w hI
set_option maxRecDepth 100000 in
set_option maxHeartbeats 4000000 in
theorem aw2 (n : Nat) {G : World → Prop} (hS : Stable G)  (ht : ∀ m w, G w → CallsIn Fence.wide m Try.prog 23 #[.int .i64 5, .int .i64 2, .int .i64 1, .int .i64 3, .int .i64 1, .bool true] w fun e w' => e = .returned (.bool true) ∧ Below w.heap.size w w') (hv : ∀ m w, G w → CallsIn Fence.wide m Try.prog 9 #[.agg #[.int .u8 0, .int .u8 0], .agg #[.int .u8 2, .int .u8 0]] w fun e w' => e = .returned (.int .i64 1) ∧ Below w.heap.size w w') (Q : Exit → Act → World → Prop) (a : Act) (w : World) (h0 : SG [(1, .int .i64 (-3840)), (2, .int .i64 0)] 24 G a w)
    (hQ : ∀ a w, SG [(0, .bool true)] 24 G a w → Q .normal a w) : (regOf 2 C11).wpIn Fence.wide n Try.prog Q a w := by
  simp only [regOf, C11, Try.f11, Option.getD, Nat.reduceBEq, Bool.false_eq_true, if_true, if_false]
  refine region_sq (fun k_ a w => match k_ with | 0 => SG [(1, .int .i64 (-3840)), (2, .int .i64 0)] 24 G a w | 1 => SG [(1, .int .i64 (-3840)), (2, .int .i64 0), (9, .bool true)] 24 G a w | 2 => SG [(1, .int .i64 (-3840)), (2, .int .i64 0), (10, .bool true)] 24 G a w | 3 => SG [(2, .int .i64 0), (10, .bool true), (11, .int .i64 (-3840))] 24 G a w | 4 => SG [(2, .int .i64 0), (10, .bool true), (12, .bool true)] 24 G a w | 5 => SG [(2, .int .i64 0), (13, .bool true)] 24 G a w | 6 => SG [(2, .int .i64 0), (14, .bool true)] 24 G a w | 7 => SG [(14, .bool true), (15, .int .i64 0)] 24 G a w | 8 => SG [(14, .bool true), (16, .bool true)] 24 G a w | 9 => SG [(17, .bool true)] 24 G a w | 10 => SG [(18, .bool true)] 24 G a w | 11 => SG [(18, .bool true), (19, .agg #[.int .u8 0, .int .u8 0])] 24 G a w | 12 => SG [(18, .bool true), (19, .agg #[.int .u8 0, .int .u8 0]), (20, .agg #[.int .u8 2, .int .u8 0])] 24 G a w | 13 => SG [(18, .bool true), (21, .int .i64 1)] 24 G a w | 14 => SG [(18, .bool true), (22, .bool true)] 24 G a w | 15 => SG [(23, .bool true)] 24 G a w | _ => SG [(0, .bool true)] 24 G a w) (show SG _ _ G a w from h0) ⟨?_, ?_, ?_, ?_, ?_, ?_, ?_, ?_, ?_, ?_, ?_, ?_, ?_, ?_, ?_, ?_, trivial⟩ ?_
  · intro a w hI
    have hI : SG _ _ G a w := hI
    go_simp
    refine ⟨trivial, fun h => (by cases h), (ht (n - 1) w hI.wp).mono ?_⟩
    rintro e w' ⟨rfl, hb2⟩
    exact hI.put (d := 9) (by decide) (by simp) (hS _ _ hI.wp hb2)
  · intro a w hI
    have hI : SG _ _ G a w := hI
    have e9 := hI.g 9 rfl
    go_simp
    exact hI.put (d := 10) (by decide) (by simp) hI.wp
  · intro a w hI
    have hI : SG _ _ G a w := hI
    have e1 := hI.g 1 rfl
    have e10 := hI.g 10 rfl
    have f10 := slot_bool e10
    go_simp
    exact hI.put (d := 11) (by decide) (by simp) hI.wp
  · intro a w hI
    have hI : SG _ _ G a w := hI
    have e11 := hI.g 11 rfl
    have e10 := hI.g 10 rfl
    have f10 := slot_bool e10
    go_simp
    exact hI.put (d := 12) (by decide) (by simp) hI.wp
  · intro a w hI
    have hI : SG _ _ G a w := hI
    have e10 := hI.g 10 rfl
    have e12 := hI.g 12 rfl
    go_simp
    exact hI.put (d := 13) (by decide) (by simp) hI.wp
  · intro a w hI
    have hI : SG _ _ G a w := hI
    have e13 := hI.g 13 rfl
    go_simp
    exact hI.put (d := 14) (by decide) (by simp) hI.wp
  · intro a w hI
    have hI : SG _ _ G a w := hI
    have e2 := hI.g 2 rfl
    have e14 := hI.g 14 rfl
    have f14 := slot_bool e14
    go_simp
    exact hI.put (d := 15) (by decide) (by simp) hI.wp
  · intro a w hI
    have hI : SG _ _ G a w := hI
    have e15 := hI.g 15 rfl
    have e14 := hI.g 14 rfl
    have f14 := slot_bool e14
    go_simp
    exact hI.put (d := 16) (by decide) (by simp) hI.wp
  · intro a w hI
    have hI : SG _ _ G a w := hI
    have e14 := hI.g 14 rfl
    have e16 := hI.g 16 rfl
    go_simp
    exact hI.put (d := 17) (by decide) (by simp) hI.wp
  · intro a w hI
    have hI : SG _ _ G a w := hI
    have e17 := hI.g 17 rfl
    go_simp
    exact hI.put (d := 18) (by decide) (by simp) hI.wp
  · intro a w hI
    have hI : SG _ _ G a w := hI
    have e18 := hI.g 18 rfl
    have f18 := slot_bool e18
    go_simp
    exact hI.put (d := 19) (by decide) (by simp) hI.wp
  · intro a w hI
    have hI : SG _ _ G a w := hI
    have e18 := hI.g 18 rfl
    have f18 := slot_bool e18
    go_simp
    exact hI.put (d := 20) (by decide) (by simp) hI.wp
  · intro a w hI
    have hI : SG _ _ G a w := hI
    have e19 := hI.g 19 rfl
    have e20 := hI.g 20 rfl
    have e18 := hI.g 18 rfl
    have f18 := slot_bool e18
    go_simp
    refine ⟨trivial, fun h => (by cases h), (hv (n - 1) w hI.wp).mono ?_⟩
    rintro e w' ⟨rfl, hb2⟩
    exact hI.put (d := 21) (by decide) (by simp) (hS _ _ hI.wp hb2)
  · intro a w hI
    have hI : SG _ _ G a w := hI
    have e21 := hI.g 21 rfl
    have e18 := hI.g 18 rfl
    have f18 := slot_bool e18
    go_simp
    exact hI.put (d := 22) (by decide) (by simp) hI.wp
  · intro a w hI
    have hI : SG _ _ G a w := hI
    have e18 := hI.g 18 rfl
    have e22 := hI.g 22 rfl
    go_simp
    exact hI.put (d := 23) (by decide) (by simp) hI.wp
  · intro a w hI
    have hI : SG _ _ G a w := hI
    have e23 := hI.g 23 rfl
    go_simp
    exact hI.put (d := 0) (by decide) (by simp) hI.wp
  · intro a w hI
    have hI : SG _ _ G a w := hI
    exact hQ a w hI
/-! ### Awake -/
open Pf (cellK cellL mayS spotV I64 U8 Gives movR totI totB ledgV mvd)
theorem i64 {x : Int} (h1 : -9223372036854775808 ≤ x) (h2 : x ≤ 9223372036854775807) : I64 x := ⟨h1, h2⟩
theorem u8i {x : Int} (h1 : 0 ≤ x) (h2 : x ≤ 255) : U8 x := ⟨h1, h2⟩
theorem byt0 : Byt fun _ => 0 := byt_zero
abbrev hNew (q : Nat) : Hd := ⟨(0, 0, 0), some (q, fun _ => 0)⟩
abbrev hLand (r : Nat) (y : Int) : Hd := ⟨(0, y, 0), some (r, landA 0)⟩
theorem okS_y {y : Int} (h : I64 y) : okS (0, y, 0) := ⟨(i64 (by omega) (by omega) : I64 0), h, (i64 (by omega) (by omega) : I64 0)⟩
theorem okNew {q : Nat} {w : World} (h : CkW w q (fun _ => 0) (fun _ => 0)) : okS (hNew q).sp ∧ (hNew q).lies w := ⟨okS_y (i64 (by omega) (by omega)), byt_zero, _, h⟩
theorem okLand {r : Nat} {w : World} {y : Int} (hy : I64 y) (h : CkW w r (landA 0) (landB 0)) : okS (hLand r y).sp ∧ (hLand r y).lies w := ⟨okS_y hy, byt_landA 0, _, h⟩
theorem C11_eq : C11 = .seq (regOf 0 C11) (.seq (regOf 1 C11) (.seq (regOf 2 C11) .ret)) := by kernel_rfl
theorem moved {a b c : Int} (ha : 0 ≤ a ∧ a ≤ 255) (hb : 0 ≤ b ∧ b ≤ 255) (hv : mvd a b = c) (n : Nat) (w : World) : CallsIn Fence.wide n Try.prog 9 #[.agg #[.int .u8 a, .int .u8 0], .agg #[.int .u8 b, .int .u8 0]] w fun e w' => e = .returned (.int .i64 c) ∧ Below w.heap.size w w' := by
  rw [← hv]
  exact Pf.c9 ha (u8i (by omega) (by omega)) hb (u8i (by omega) (by omega)) n w
theorem awake_in (n : Nat) (w : World) : CallsIn Fence.wide n Try.prog 11 #[] w fun e w' => e = .returned (.bool true) ∧ Below w.heap.size w w' := by
  refine callsIn_of_wp Try.func11 rfl trivial ?_
  show C11.wpIn _ _ _ _ _ _
  rw [C11_eq]
  refine wpIn_seq (aw0 n w _ _ ⟨by simp [Try.ntmps11], rfl, by simp, rfl⟩ ?_)
  intro a1 s1
  refine wpIn_seq (aw1 n (G := Below w.heap.size w) (G1 := fun r w' => Below w.heap.size w w' ∧ CkW w' r (fun _ => 0) (fun _ => 0)) (fun r => belS.and (CkW.stable _ _ _))
    (fun m w' hw => (new_in m w').mono ?_) (fun r m w' hw => ?_) _ a1 w (s1.sg (Below.refl _ _)) ?_)
  · rintro e w3 ⟨r, rfl, h1, _, h2⟩
    exact ⟨r, rfl, belS _ _ hw h1, h2⟩
  · have := more_all (okNew hw.2).1 (okNew hw.2).2 m
    rw [mS_new0] at this
    exact this
  intro r a2 w2 s2
  refine wpIn_seq (aw2 n (belS.and (CkW.stable _ _ _)) (fun m w _ => Pf.t1 m w) (fun m w _ => moved (by omega) (by omega) (by decide +kernel) m w) _ a2 w2 s2 ?_)
  intro a3 w3 s3
  exact wpIn_ret ⟨s3.defers, _, results_tmp (t := 0) rfl _ _ _, by rw [Array.getD_eq_getD_getElem?, s3.g 0 rfl], s3.wp.1⟩
end Go.Proofs.Ytigblagodlfedaa
