/- Glow: the walk of a law. -/
import Derived.RangeFuncNested
import Derived.RangeFuncBound
import Derived.RangeFuncCalls
import Derived.RangeFuncLeaves
import Derived.Shelf.Abstract
import Derived.Shelf.RegionOpen
import Derived.WalkKit
import Derived.OwnWalkIn
import Derived.TacticsInMore
import Derived.LoopNIn
import Derived.LoopIn
import Derived.Lib.Hide
import Derived.IntWalk
import Derived.Maps.AppendAt
import Derived.Test.YtigblagodlfedaaHand

import Derived.Laws.CopyOwn
import Derived.Deep.Slices
import Derived.SizedLaws
import Derived.DataReads
import Derived.Test.YtigblagodlfedaaM5
set_option linter.unusedVariables false
set_option linter.unusedSimpArgs false
namespace Go.Proofs.Ytigblagodlfedaa
open Go.RowKit Go.Shelf
attribute [local go_sem] Oper.semAt_some

open Pf (cellK cellL mayS spotV I64 U8 Gives movR totI totB ledgV)
theorem info_parts {e : Nat} {z : Value} {s b : Nat} (h : (Try.prog.info? e).map (fun i => (i.zero, i.size, i.bytes)) = some (some z, s, b)) : ∃ i, Try.prog.info? e = some i ∧ i.zero = some z ∧ i.size = s ∧ i.bytes = b := by
  obtain ⟨i, hi, h2⟩ := Option.map_eq_some_iff.1 h
  simp only [Prod.mk.injEq] at h2
  exact ⟨i, hi, h2.1, h2.2.1, h2.2.2⟩
theorem info58 : (Try.prog.info? 58).map (fun i => (i.zero, i.size, i.bytes)) = some (some (.agg #[.int .i64 0, .int .i64 0, .int .i64 0, .pointer none]), 4, 32) := by kernel_rfl
theorem info33 : (Try.prog.info? 33).map (fun i => (i.zero, i.size, i.bytes)) = some (some (.agg #[.int .i64 0, .int .i64 0, .int .i64 0]), 3, 24) := by kernel_rfl
theorem info34 : (Try.prog.info? 34).map (fun i => (i.zero, i.size, i.bytes)) = some (some (.pointer none), 1, 8) := by kernel_rfl
theorem key39K {K : Nat → Nat} (hK : ∀ j, K j ≤ 5000) : ∃ l, keyOf Try.prog 39 (.agg (arrK K)) = some l := by
  have hk : Try.prog.keyType 39 = true := by kernel_rfl
  have hc : Try.prog.cellsOf 39 = 15 := by kernel_rfl
  have hc3 : Try.prog.cellsOf 3 = 1 := by kernel_rfl
  obtain ⟨m, hm⟩ : ∃ m, Try.prog.types.size = m + 1 := by
    have : 0 < Try.prog.types.size := of_decide_eq_true (by kernel_rfl)
    exact ⟨Try.prog.types.size - 1, by omega⟩
  have w1 : ∀ j, (Lit.int .i64 (K j : Nat)).wf = true := fun j => wf64 ⟨by have := hK j; omega, by have := hK j; omega⟩
  have ha : arrK K = #[.int .i64 (K 0 : Nat), .int .i64 (K 1 : Nat), .int .i64 (K 2 : Nat), .int .i64 (K 3 : Nat), .int .i64 (K 4 : Nat), .int .i64 (K 5 : Nat), .int .i64 (K 6 : Nat), .int .i64 (K 7 : Nat), .int .i64 (K 8 : Nat), .int .i64 (K 9 : Nat), .int .i64 (K 10 : Nat), .int .i64 (K 11 : Nat), .int .i64 (K 12 : Nat), .int .i64 (K 13 : Nat), .int .i64 (K 14 : Nat)] := rfl
  have hu : Try.prog.underlying 39 = some (.array 15 3) := by kernel_rfl
  have h1 : ∀ j, Try.prog.keyLits (m + 1) 3 [.int .i64 (K j : Nat)] = some [.int .i64 (K j : Nat)] := fun j => by simp [Program.keyLits, Try.underlying3, w1 j]
  have hr : List.range 15 = [0, 1, 2, 3, 4, 5, 6, 7, 8, 9, 10, 11, 12, 13, 14] := rfl
  have h2 : ∃ ls, Try.prog.keyLits (m + 1 + 1) 39 (arrK K).toList = some ls := by
    unfold Program.keyLits
    rw [ha, hu]
    simp only [hc, hc3, List.length_cons, List.length_nil, hr]
    simp [h1]
  obtain ⟨ls, h2⟩ := h2
  refine ⟨.string (keyBytes ls), ?_⟩
  simp [keyOf, hu, hk, Value.formed, hc, Value.cells, hm, h2, arrK_size]
theorem neq39K {K : Nat → Nat} (hK : ∀ j, K j ≤ 5000) (w : World) : (binOp .neq 39 (.agg (arrK K)) (.agg (arrK K))).run Try.prog w = .ok (.bool false) w := by
  obtain ⟨l, hl⟩ := key39K hK
  obtain ⟨r, h1, h2⟩ := run_equal_deep (P := Try.prog) w (m := 8) (by decide) (k := 39) (by kernel_rfl) (by kernel_rfl) hl hl
  have hr : r = true := h2.2 rfl
  subst hr
  have e : binOp .neq 39 (.agg (arrK K)) (.agg (arrK K)) = (do pure (.bool (!(← Op.equal 39 (.agg (arrK K)) (.agg (arrK K)))))) := rfl
  rw [e]
  simp [h1, Result.andThen]
theorem guard39K (x y : Operand) (K : Nat → Nat) (w : World) : (eqGuard .neq 39 x y (.agg (arrK K)) (.agg (arrK K))).run Try.prog w = .ok () w := by
  unfold eqGuard
  simp
noncomputable def C5 : Code := Try.f5.body.getD .skip
set_option maxRecDepth 100000 in
set_option maxHeartbeats 4000000 in
theorem tt0 (n : Nat) (W : World) (sa : Option Addr) (L pc : Nat) (l0 l1 l2 l3 : Int)  (Q : Exit → Act → World → Prop) (a : Act) (h0 : SR [(0, .slice sa L pc), (1, .agg #[.int .i64 l0, .int .i64 l1, .int .i64 l2, .int .i64 l3])] 190 [] W a W)
    (hQ : ∀ a, SR [(0, .slice sa L pc), (3, .pointer (some ⟨W.heap.size, 0, none⟩))] 190 [] (W.alloc (.cells #[.int .i64 l0, .int .i64 l1, .int .i64 l2, .int .i64 l3] 23)) a (W.alloc (.cells #[.int .i64 l0, .int .i64 l1, .int .i64 l2, .int .i64 l3] 23)) → Q .normal a (W.alloc (.cells #[.int .i64 l0, .int .i64 l1, .int .i64 l2, .int .i64 l3] 23))) : (regOf 0 C5).wpIn Fence.wide n Try.prog Q a W := by
  simp only [regOf, C5, Try.f5, Option.getD, Nat.reduceBEq, Bool.false_eq_true, if_true, if_false]
  refine region_sq (fun k_ a w => match k_ with | 0 => SR [(0, .slice sa L pc), (1, .agg #[.int .i64 l0, .int .i64 l1, .int .i64 l2, .int .i64 l3])] 190 [] (W) a w | 1 => SR [(0, .slice sa L pc), (3, .pointer (some ⟨W.heap.size, 0, none⟩))] 190 [] (W.alloc (.cells #[.int .i64 l0, .int .i64 l1, .int .i64 l2, .int .i64 l3] 23)) a w | _ => SR [(0, .slice sa L pc), (3, .pointer (some ⟨W.heap.size, 0, none⟩))] 190 [] (W.alloc (.cells #[.int .i64 l0, .int .i64 l1, .int .i64 l2, .int .i64 l3] 23)) a w) (show SR _ _ _ _ a W from h0) ⟨?_, ?_, trivial⟩ ?_
  · intro a w hI
    have hI : SR _ _ _ _ a w := hI
    have e1 := hI.g 1 rfl
    have hw : w = W := hI.wp
    subst hw
    go_simp
    exact hI.put (d := 3) (by decide) (by simp)
  · intro a w hI
    have hI : SR _ _ _ _ a w := hI
    obtain rfl := hI.wp
    go_simp
    exact hI.put (d := 4) (by decide) (by simp)
  · intro a w hI
    have hI : SR _ _ _ _ a w := hI
    obtain rfl := hI.wp
    exact hQ a hI
set_option maxRecDepth 100000 in
set_option maxHeartbeats 4000000 in
theorem tt1 (n : Nat) (W : World) (sa : Option Addr) (L pc : Nat) (bx : Nat)  (Q : Exit → Act → World → Prop) (a : Act) (h0 : SR [(0, .slice sa L pc), (3, .pointer (some ⟨bx, 0, none⟩))] 190 [] W a W)
    (hQ : ∀ a, SR [(0, .slice sa L pc), (3, .pointer (some ⟨bx, 0, none⟩)), (24, .bool (decide ((12 : Int) < L)))] 190 [] (W) a (W) → Q .normal a (W)) : (regOf 1 C5).wpIn Fence.wide n Try.prog Q a W := by
  simp only [regOf, C5, Try.f5, Option.getD, Nat.reduceBEq, Bool.false_eq_true, if_true, if_false]
  refine region_sq (fun k_ a w => match k_ with | 0 => SR [(0, .slice sa L pc), (3, .pointer (some ⟨bx, 0, none⟩))] 190 [] (W) a w | 1 => SR [(0, .slice sa L pc), (3, .pointer (some ⟨bx, 0, none⟩)), (22, .slice sa L pc)] 190 [] (W) a w | 2 => SR [(0, .slice sa L pc), (3, .pointer (some ⟨bx, 0, none⟩)), (23, .int .i64 L)] 190 [] (W) a w | _ => SR [(0, .slice sa L pc), (3, .pointer (some ⟨bx, 0, none⟩)), (24, .bool (decide ((12 : Int) < L)))] 190 [] (W) a w) (show SR _ _ _ _ a W from h0) ⟨?_, ?_, ?_, trivial⟩ ?_
  · intro a w hI
    have hI : SR _ _ _ _ a w := hI
    have e0 := hI.g 0 rfl
    have hw : w = W := hI.wp
    subst hw
    go_simp
    exact hI.put (d := 22) (by decide) (by simp)
  · intro a w hI
    have hI : SR _ _ _ _ a w := hI
    have e22 := hI.g 22 rfl
    have hw : w = W := hI.wp
    subst hw
    go_simp
    exact hI.put (d := 23) (by decide) (by simp)
  · intro a w hI
    have hI : SR _ _ _ _ a w := hI
    have e23 := hI.g 23 rfl
    have hw : w = W := hI.wp
    subst hw
    go_simp
    exact hI.put (d := 24) (by decide) (by simp)
  · intro a w hI
    have hI : SR _ _ _ _ a w := hI
    have hw : w = W := hI.wp
    subst hw
    exact hQ a hI
set_option maxRecDepth 100000 in
set_option maxHeartbeats 4000000 in
theorem tt2 (n : Nat) {G : World → Prop} (hS : Stable G)  (ha : ∀ m w, G w → CallsIn Fence.wide m Try.prog 11 #[] w fun e w' => e = .returned (.bool true) ∧ Below w.heap.size w w') (Q : Exit → Act → World → Prop) (a : Act) (w : World) (h0 : SG [] 190 G a w)
    (hQ : ∀ a w, SG [(4, .bool true)] 190 G a w → Q .normal a w) : (regOf 2 C5).wpIn Fence.wide n Try.prog Q a w := by
  simp only [regOf, C5, Try.f5, Option.getD, Nat.reduceBEq, Bool.false_eq_true, if_true, if_false]
  refine region_sq (fun k_ a w => match k_ with | 0 => SG [] 190 G a w | 1 => SG [(25, .bool true)] 190 G a w | _ => SG [(4, .bool true)] 190 G a w) (show SG _ _ G a w from h0) ⟨?_, ?_, trivial⟩ ?_
  · intro a w hI
    have hI : SG _ _ G a w := hI
    go_simp
    refine ⟨trivial, fun h => (by cases h), (ha (n - 1) w hI.wp).mono ?_⟩
    rintro e w' ⟨rfl, hb2⟩
    exact hI.put (d := 25) (by decide) (by simp) (hS _ _ hI.wp hb2)
  · intro a w hI
    have hI : SG _ _ G a w := hI
    have e25 := hI.g 25 rfl
    go_simp
    exact hI.put (d := 4) (by decide) (by simp) hI.wp
  · intro a w hI
    have hI : SG _ _ G a w := hI
    exact hQ a w hI
set_option maxRecDepth 100000 in
set_option maxHeartbeats 4000000 in
theorem tt3 (n : Nat) (W : World) (sa : Option Addr) (L pc : Nat) (bx : Nat)  (Q : Exit → Act → World → Prop) (a : Act) (h0 : SR [(0, .slice sa L pc), (3, .pointer (some ⟨bx, 0, none⟩))] 190 [] W a W)
    (hQ : ∀ a, SR [(0, .slice sa L pc), (3, .pointer (some ⟨bx, 0, none⟩)), (5, .slice none 0 0)] 190 [] (W) a (W) → Q .normal a (W)) : (regOf 3 C5).wpIn Fence.wide n Try.prog Q a W := by
  simp only [regOf, C5, Try.f5, Option.getD, Nat.reduceBEq, Bool.false_eq_true, if_true, if_false]
  refine region_sq (fun k_ a w => match k_ with | 0 => SR [(0, .slice sa L pc), (3, .pointer (some ⟨bx, 0, none⟩))] 190 [] (W) a w | _ => SR [(0, .slice sa L pc), (3, .pointer (some ⟨bx, 0, none⟩)), (5, .slice none 0 0)] 190 [] (W) a w) (show SR _ _ _ _ a W from h0) ⟨?_, trivial⟩ ?_
  · intro a w hI
    have hI : SR _ _ _ _ a w := hI
    have hw : w = W := hI.wp
    subst hw
    go_simp
    exact hI.put (d := 5) (by decide) (by simp)
  · intro a w hI
    have hI : SR _ _ _ _ a w := hI
    have hw : w = W := hI.wp
    subst hw
    exact hQ a hI
set_option maxRecDepth 100000 in
set_option maxHeartbeats 4000000 in
theorem tt4 (n : Nat) (W : World) (sa : Option Addr) (L pc : Nat) (bx : Nat)  (Q : Exit → Act → World → Prop) (a : Act) (h0 : SR [(0, .slice sa L pc), (3, .pointer (some ⟨bx, 0, none⟩)), (5, .slice none 0 0)] 190 [] W a W)
    (hQ : ∀ a, SR [(0, .slice sa L pc), (3, .pointer (some ⟨bx, 0, none⟩)), (5, .slice none 0 0), (6, .slice none 0 0)] 190 [] (W) a (W) → Q .normal a (W)) : (regOf 4 C5).wpIn Fence.wide n Try.prog Q a W := by
  simp only [regOf, C5, Try.f5, Option.getD, Nat.reduceBEq, Bool.false_eq_true, if_true, if_false]
  refine region_sq (fun k_ a w => match k_ with | 0 => SR [(0, .slice sa L pc), (3, .pointer (some ⟨bx, 0, none⟩)), (5, .slice none 0 0)] 190 [] (W) a w | _ => SR [(0, .slice sa L pc), (3, .pointer (some ⟨bx, 0, none⟩)), (5, .slice none 0 0), (6, .slice none 0 0)] 190 [] (W) a w) (show SR _ _ _ _ a W from h0) ⟨?_, trivial⟩ ?_
  · intro a w hI
    have hI : SR _ _ _ _ a w := hI
    have hw : w = W := hI.wp
    subst hw
    go_simp
    exact hI.put (d := 6) (by decide) (by simp)
  · intro a w hI
    have hI : SR _ _ _ _ a w := hI
    have hw : w = W := hI.wp
    subst hw
    exact hQ a hI
set_option maxRecDepth 100000 in
set_option maxHeartbeats 4000000 in
theorem tt5 (n : Nat) (W : World) (sa : Option Addr) (L pc : Nat) (bx : Nat)  (Q : Exit → Act → World → Prop) (a : Act) (h0 : SR [(0, .slice sa L pc), (3, .pointer (some ⟨bx, 0, none⟩)), (5, .slice none 0 0), (6, .slice none 0 0)] 190 [] W a W)
    (hQ : ∀ a, SR [(0, .slice sa L pc), (3, .pointer (some ⟨bx, 0, none⟩)), (5, .slice none 0 0), (6, .slice none 0 0), (7, .slice none 0 0)] 190 [] (W) a (W) → Q .normal a (W)) : (regOf 5 C5).wpIn Fence.wide n Try.prog Q a W := by
  simp only [regOf, C5, Try.f5, Option.getD, Nat.reduceBEq, Bool.false_eq_true, if_true, if_false]
  refine region_sq (fun k_ a w => match k_ with | 0 => SR [(0, .slice sa L pc), (3, .pointer (some ⟨bx, 0, none⟩)), (5, .slice none 0 0), (6, .slice none 0 0)] 190 [] (W) a w | _ => SR [(0, .slice sa L pc), (3, .pointer (some ⟨bx, 0, none⟩)), (5, .slice none 0 0), (6, .slice none 0 0), (7, .slice none 0 0)] 190 [] (W) a w) (show SR _ _ _ _ a W from h0) ⟨?_, trivial⟩ ?_
  · intro a w hI
    have hI : SR _ _ _ _ a w := hI
    have hw : w = W := hI.wp
    subst hw
    go_simp
    exact hI.put (d := 7) (by decide) (by simp)
  · intro a w hI
    have hI : SR _ _ _ _ a w := hI
    have hw : w = W := hI.wp
    subst hw
    exact hQ a hI
set_option maxRecDepth 100000 in
set_option maxHeartbeats 4000000 in
theorem tt6 (n : Nat) (W : World) (sa : Option Addr) (L pc : Nat) (bx : Nat)  (Q : Exit → Act → World → Prop) (a : Act) (h0 : SR [(0, .slice sa L pc), (3, .pointer (some ⟨bx, 0, none⟩)), (5, .slice none 0 0), (6, .slice none 0 0), (7, .slice none 0 0)] 190 [] W a W)
    (hQ : ∀ a, SR [(0, .slice sa L pc), (3, .pointer (some ⟨bx, 0, none⟩)), (5, .slice none 0 0), (6, .slice none 0 0), (7, .slice none 0 0), (8, .int .i64 0)] 190 [] (W) a (W) → Q .normal a (W)) : (regOf 6 C5).wpIn Fence.wide n Try.prog Q a W := by
  simp only [regOf, C5, Try.f5, Option.getD, Nat.reduceBEq, Bool.false_eq_true, if_true, if_false]
  refine region_sq (fun k_ a w => match k_ with | 0 => SR [(0, .slice sa L pc), (3, .pointer (some ⟨bx, 0, none⟩)), (5, .slice none 0 0), (6, .slice none 0 0), (7, .slice none 0 0)] 190 [] (W) a w | _ => SR [(0, .slice sa L pc), (3, .pointer (some ⟨bx, 0, none⟩)), (5, .slice none 0 0), (6, .slice none 0 0), (7, .slice none 0 0), (8, .int .i64 0)] 190 [] (W) a w) (show SR _ _ _ _ a W from h0) ⟨?_, trivial⟩ ?_
  · intro a w hI
    have hI : SR _ _ _ _ a w := hI
    have hw : w = W := hI.wp
    subst hw
    go_simp
    exact hI.put (d := 8) (by decide) (by simp)
  · intro a w hI
    have hI : SR _ _ _ _ a w := hI
    have hw : w = W := hI.wp
    subst hw
    exact hQ a hI
abbrev s5 (sa : Option Addr) (L pc : Nat) (bx : Nat) (v5 v6 v7 : Value) (i : Nat)  : List (Nat × Value) := [(0, .slice sa L pc), (3, .pointer (some ⟨bx, 0, none⟩)), (5, v5), (6, v6), (7, v7), (8, .int .i64 i)]
set_option maxRecDepth 100000 in
set_option maxHeartbeats 4000000 in
theorem tt7 (n : Nat) (W : World) (sa : Option Addr) (L pc : Nat) (bx : Nat) (v5 v6 v7 : Value) (i : Nat)  (Q : Exit → Act → World → Prop) (a : Act) (h0 : SR (s5 sa L pc bx v5 v6 v7 i) 190 [] W a W)
    (hQ : ∀ a, SR (s5 sa L pc bx v5 v6 v7 i ++ [(29, .bool (decide ((i : Int) < L)))]) 190 [] (W) a (W) → Q .normal a (W)) : (regOf 7 C5).wpIn Fence.wide n Try.prog Q a W := by
  simp only [regOf, C5, Try.f5, Option.getD, Nat.reduceBEq, Bool.false_eq_true, if_true, if_false]
  refine region_sq (fun k_ a w => match k_ with | 0 => SR (s5 sa L pc bx v5 v6 v7 i) 190 [] (W) a w | 1 => SR (s5 sa L pc bx v5 v6 v7 i ++ [(26, .int .i64 i)]) 190 [] (W) a w | 2 => SR (s5 sa L pc bx v5 v6 v7 i ++ [(26, .int .i64 i), (27, .slice sa L pc)]) 190 [] (W) a w | 3 => SR (s5 sa L pc bx v5 v6 v7 i ++ [(26, .int .i64 i), (28, .int .i64 L)]) 190 [] (W) a w | _ => SR (s5 sa L pc bx v5 v6 v7 i ++ [(29, .bool (decide ((i : Int) < L)))]) 190 [] (W) a w) (show SR _ _ _ _ a W from h0) ⟨?_, ?_, ?_, ?_, trivial⟩ ?_
  · intro a w hI
    have hI : SR _ _ _ _ a w := hI
    have e8 := hI.g 8 rfl
    have hw : w = W := hI.wp
    subst hw
    go_simp
    exact hI.put (d := 26) (by decide) (by simp)
  · intro a w hI
    have hI : SR _ _ _ _ a w := hI
    have e0 := hI.g 0 rfl
    have hw : w = W := hI.wp
    subst hw
    go_simp
    exact hI.put (d := 27) (by decide) (by simp)
  · intro a w hI
    have hI : SR _ _ _ _ a w := hI
    have e27 := hI.g 27 rfl
    have hw : w = W := hI.wp
    subst hw
    go_simp
    exact hI.put (d := 28) (by decide) (by simp)
  · intro a w hI
    have hI : SR _ _ _ _ a w := hI
    have e26 := hI.g 26 rfl
    have e28 := hI.g 28 rfl
    have hw : w = W := hI.wp
    subst hw
    go_simp
    exact hI.put (d := 29) (by decide) (by simp)
  · intro a w hI
    have hI : SR _ _ _ _ a w := hI
    have hw : w = W := hI.wp
    subst hw
    exact hQ a hI
set_option maxRecDepth 100000 in
set_option maxHeartbeats 4000000 in
theorem tt8 (n : Nat) (W : World) (sa : Option Addr) (L pc : Nat) (bx : Nat) (v5 v6 v7 : Value) (i : Nat) (hi : i < L) (hL : L ≤ 4294967296) (Q : Exit → Act → World → Prop) (a : Act) (h0 : SR (s5 sa L pc bx v5 v6 v7 i) 190 [] W a W)
    (hQ : ∀ a, SR [(0, .slice sa L pc), (3, .pointer (some ⟨bx, 0, none⟩)), (5, v5), (6, v6), (7, v7), (8, .int .i64 ((i : Int) + 1))] 190 [] (W) a (W) → Q .normal a (W)) : (regOf 8 C5).wpIn Fence.wide n Try.prog Q a W := by
  simp only [regOf, C5, Try.f5, Option.getD, Nat.reduceBEq, Bool.false_eq_true, if_true, if_false]
  refine region_sq (fun k_ a w => match k_ with | 0 => SR (s5 sa L pc bx v5 v6 v7 i) 190 [] (W) a w | 1 => SR [(0, .slice sa L pc), (3, .pointer (some ⟨bx, 0, none⟩)), (5, v5), (6, v6), (7, v7), (30, .int .i64 i)] 190 [] (W) a w | 2 => SR [(0, .slice sa L pc), (3, .pointer (some ⟨bx, 0, none⟩)), (5, v5), (6, v6), (7, v7), (31, .int .i64 ((i : Int) + 1))] 190 [] (W) a w | _ => SR [(0, .slice sa L pc), (3, .pointer (some ⟨bx, 0, none⟩)), (5, v5), (6, v6), (7, v7), (8, .int .i64 ((i : Int) + 1))] 190 [] (W) a w) (show SR _ _ _ _ a W from h0) ⟨?_, ?_, ?_, trivial⟩ ?_
  · intro a w hI
    have hI : SR _ _ _ _ a w := hI
    have e8 := hI.g 8 rfl
    have hw : w = W := hI.wp
    subst hw
    go_simp
    exact hI.put (d := 30) (by decide) (by simp)
  · intro a w hI
    have hI : SR _ _ _ _ a w := hI
    have e30 := hI.g 30 rfl
    have hw : w = W := hI.wp
    subst hw
    have hw1 : IntKind.i64.wrap ((i : Int) + 1) = (i : Int) + 1 := IntWalk.i64_in _ (by omega)
    go_simp
    exact hI.put (d := 31) (by decide) (by simp)
  · intro a w hI
    have hI : SR _ _ _ _ a w := hI
    have e31 := hI.g 31 rfl
    have hw : w = W := hI.wp
    subst hw
    go_simp
    exact hI.put (d := 8) (by decide) (by simp)
  · intro a w hI
    have hI : SR _ _ _ _ a w := hI
    have hw : w = W := hI.wp
    subst hw
    exact hQ a hI
abbrev sg (ga oa L pc : Nat) (bx : Nat) (v5 v6 v7 : Value) (i : Nat)  : List (Nat × Value) := [(0, .slice (some ⟨ga, oa, none⟩) L pc), (3, .pointer (some ⟨bx, 0, none⟩)), (5, v5), (6, v6), (7, v7), (8, .int .i64 i)]
set_option maxRecDepth 100000 in
set_option maxHeartbeats 4000000 in
theorem tt9 (n : Nat) (W : World) (ga oa L pc : Nat) (bx : Nat) (v5 v6 v7 : Value) (i : Nat) (se : Option Addr) (EL ec : Nat) (hi : i < L)  (k3 : W.cell? ⟨ga, oa + i * 5 + 3, none⟩ = some (.slice se EL ec)) (Q : Exit → Act → World → Prop) (a : Act) (h0 : SR (sg ga oa L pc bx v5 v6 v7 i) 190 [] W a W)
    (hQ : ∀ a, SR (sg ga oa L pc bx v5 v6 v7 i ++ [(38, .bool (decide ((200 : Int) < EL)))]) 190 [] (W) a (W) → Q .normal a (W)) : (regOf 9 C5).wpIn Fence.wide n Try.prog Q a W := by
  simp only [regOf, C5, Try.f5, Option.getD, Nat.reduceBEq, Bool.false_eq_true, if_true, if_false]
  refine region_sq (fun k_ a w => match k_ with | 0 => SR (sg ga oa L pc bx v5 v6 v7 i) 190 [] (W) a w | 1 => SR (sg ga oa L pc bx v5 v6 v7 i ++ [(32, .slice (some ⟨ga, oa, none⟩) L pc)]) 190 [] (W) a w | 2 => SR (sg ga oa L pc bx v5 v6 v7 i ++ [(32, .slice (some ⟨ga, oa, none⟩) L pc), (33, .int .i64 i)]) 190 [] (W) a w | 3 => SR (sg ga oa L pc bx v5 v6 v7 i ++ [(34, .pointer (some ⟨ga, oa + i * 5, none⟩))]) 190 [] (W) a w | 4 => SR (sg ga oa L pc bx v5 v6 v7 i ++ [(35, .pointer (some ⟨ga, oa + i * 5 + 3, none⟩))]) 190 [] (W) a w | 5 => SR (sg ga oa L pc bx v5 v6 v7 i ++ [(36, .slice se EL ec)]) 190 [] (W) a w | 6 => SR (sg ga oa L pc bx v5 v6 v7 i ++ [(37, .int .i64 EL)]) 190 [] (W) a w | _ => SR (sg ga oa L pc bx v5 v6 v7 i ++ [(38, .bool (decide ((200 : Int) < EL)))]) 190 [] (W) a w) (show SR _ _ _ _ a W from h0) ⟨?_, ?_, ?_, ?_, ?_, ?_, ?_, trivial⟩ ?_
  · intro a w hI
    have hI : SR _ _ _ _ a w := hI
    have e0 := hI.g 0 rfl
    have hw : w = W := hI.wp
    subst hw
    go_simp
    exact hI.put (d := 32) (by decide) (by simp)
  · intro a w hI
    have hI : SR _ _ _ _ a w := hI
    have e8 := hI.g 8 rfl
    have hw : w = W := hI.wp
    subst hw
    go_simp
    exact hI.put (d := 33) (by decide) (by simp)
  · intro a w hI
    have hI : SR _ _ _ _ a w := hI
    have e32 := hI.g 32 rfl
    have e33 := hI.g 33 rfl
    have hw : w = W := hI.wp
    subst hw
    have q1_2 : (0 : Int) ≤ i := by omega
    have q2_2 : (i : Int) < L := by omega
    go_simp
    exact hI.put (d := 34) (by decide) (by simp)
  · intro a w hI
    have hI : SR _ _ _ _ a w := hI
    have e34 := hI.g 34 rfl
    have hw : w = W := hI.wp
    subst hw
    go_simp
    exact hI.put (d := 35) (by decide) (by simp)
  · intro a w hI
    have hI : SR _ _ _ _ a w := hI
    have e35 := hI.g 35 rfl
    have hw : w = W := hI.wp
    subst hw
    go_simp
    exact hI.put (d := 36) (by decide) (by simp)
  · intro a w hI
    have hI : SR _ _ _ _ a w := hI
    have e36 := hI.g 36 rfl
    have hw : w = W := hI.wp
    subst hw
    go_simp
    exact hI.put (d := 37) (by decide) (by simp)
  · intro a w hI
    have hI : SR _ _ _ _ a w := hI
    have e37 := hI.g 37 rfl
    have hw : w = W := hI.wp
    subst hw
    go_simp
    exact hI.put (d := 38) (by decide) (by simp)
  · intro a w hI
    have hI : SR _ _ _ _ a w := hI
    have hw : w = W := hI.wp
    subst hw
    exact hQ a hI
set_option maxRecDepth 100000 in
set_option maxHeartbeats 4000000 in
theorem tt10 (n : Nat) {G : World → Prop} (hS : Stable G)  (ha : ∀ m w, G w → CallsIn Fence.wide m Try.prog 11 #[] w fun e w' => e = .returned (.bool true) ∧ Below w.heap.size w w') (Q : Exit → Act → World → Prop) (a : Act) (w : World) (h0 : SG [] 190 G a w)
    (hQ : ∀ a w, SG [(4, .bool true)] 190 G a w → Q .normal a w) : (regOf 10 C5).wpIn Fence.wide n Try.prog Q a w := by
  simp only [regOf, C5, Try.f5, Option.getD, Nat.reduceBEq, Bool.false_eq_true, if_true, if_false]
  refine region_sq (fun k_ a w => match k_ with | 0 => SG [] 190 G a w | 1 => SG [(39, .bool true)] 190 G a w | _ => SG [(4, .bool true)] 190 G a w) (show SG _ _ G a w from h0) ⟨?_, ?_, trivial⟩ ?_
  · intro a w hI
    have hI : SG _ _ G a w := hI
    go_simp
    refine ⟨trivial, fun h => (by cases h), (ha (n - 1) w hI.wp).mono ?_⟩
    rintro e w' ⟨rfl, hb2⟩
    exact hI.put (d := 39) (by decide) (by simp) (hS _ _ hI.wp hb2)
  · intro a w hI
    have hI : SG _ _ G a w := hI
    have e39 := hI.g 39 rfl
    go_simp
    exact hI.put (d := 4) (by decide) (by simp) hI.wp
  · intro a w hI
    have hI : SG _ _ G a w := hI
    exact hQ a w hI
set_option maxRecDepth 100000 in
set_option maxHeartbeats 4000000 in
theorem tt11 (n : Nat) (W : World) (ga oa L pc : Nat) (bx : Nat) (v5 v6 v7 : Value) (i : Nat) (p : Sp3) (hi : i < L)  (k0 : W.cell? ⟨ga, oa + i * 5, none⟩ = some (.int .i64 (p.1))) (k1 : W.cell? ⟨ga, oa + i * 5 + 1, none⟩ = some (.int .i64 (p.2.1))) (k2 : W.cell? ⟨ga, oa + i * 5 + 2, none⟩ = some (.int .i64 (p.2.2))) (Q : Exit → Act → World → Prop) (a : Act) (h0 : SR (sg ga oa L pc bx v5 v6 v7 i) 190 [] W a W)
    (hQ : ∀ a, SR (sg ga oa L pc bx v5 v6 v7 i ++ [(9, .pointer (some ⟨W.heap.size, 0, none⟩))]) 190 [] (W.alloc (.cells #[.int .i64 p.1, .int .i64 p.2.1, .int .i64 p.2.2, .pointer none] 58)) a (W.alloc (.cells #[.int .i64 p.1, .int .i64 p.2.1, .int .i64 p.2.2, .pointer none] 58)) → Q .normal a (W.alloc (.cells #[.int .i64 p.1, .int .i64 p.2.1, .int .i64 p.2.2, .pointer none] 58))) : (regOf 11 C5).wpIn Fence.wide n Try.prog Q a W := by
  simp only [regOf, C5, Try.f5, Option.getD, Nat.reduceBEq, Bool.false_eq_true, if_true, if_false]
  refine region_sq (fun k_ a w => match k_ with | 0 => SR (sg ga oa L pc bx v5 v6 v7 i) 190 [] (W) a w | 1 => SR (sg ga oa L pc bx v5 v6 v7 i ++ [(40, .slice (some ⟨ga, oa, none⟩) L pc)]) 190 [] (W) a w | 2 => SR (sg ga oa L pc bx v5 v6 v7 i ++ [(40, .slice (some ⟨ga, oa, none⟩) L pc), (41, .int .i64 i)]) 190 [] (W) a w | 3 => SR (sg ga oa L pc bx v5 v6 v7 i ++ [(42, .pointer (some ⟨ga, oa + i * 5, none⟩))]) 190 [] (W) a w | 4 => SR (sg ga oa L pc bx v5 v6 v7 i ++ [(43, .pointer (some ⟨ga, oa + i * 5, none⟩))]) 190 [] (W) a w | 5 => SR (sg ga oa L pc bx v5 v6 v7 i ++ [(44, .agg #[.int .i64 (p.1), .int .i64 (p.2.1), .int .i64 (p.2.2)])]) 190 [] (W) a w | 6 => SR (sg ga oa L pc bx v5 v6 v7 i ++ [(45, .agg #[.int .i64 (p.1), .int .i64 (p.2.1), .int .i64 (p.2.2), .pointer none])]) 190 [] (W) a w | 7 => SR (sg ga oa L pc bx v5 v6 v7 i ++ [(45, .agg #[.int .i64 (p.1), .int .i64 (p.2.1), .int .i64 (p.2.2), .pointer none]), (9, .pointer (some ⟨W.heap.size, 0, none⟩))]) 190 [] (W.alloc (.cells #[.int .i64 0, .int .i64 0, .int .i64 0, .pointer none] 58)) a w | _ => SR (sg ga oa L pc bx v5 v6 v7 i ++ [(9, .pointer (some ⟨W.heap.size, 0, none⟩))]) 190 [] (W.alloc (.cells #[.int .i64 p.1, .int .i64 p.2.1, .int .i64 p.2.2, .pointer none] 58)) a w) (show SR _ _ _ _ a W from h0) ⟨?_, ?_, ?_, ?_, ?_, ?_, ?_, ?_, trivial⟩ ?_
  · intro a w hI
    have hI : SR _ _ _ _ a w := hI
    have e0 := hI.g 0 rfl
    have hw : w = W := hI.wp
    subst hw
    go_simp
    exact hI.put (d := 40) (by decide) (by simp)
  · intro a w hI
    have hI : SR _ _ _ _ a w := hI
    have e8 := hI.g 8 rfl
    have hw : w = W := hI.wp
    subst hw
    go_simp
    exact hI.put (d := 41) (by decide) (by simp)
  · intro a w hI
    have hI : SR _ _ _ _ a w := hI
    have e40 := hI.g 40 rfl
    have e41 := hI.g 41 rfl
    have hw : w = W := hI.wp
    subst hw
    have q1_2 : (0 : Int) ≤ i := by omega
    have q2_2 : (i : Int) < L := by omega
    go_simp
    exact hI.put (d := 42) (by decide) (by simp)
  · intro a w hI
    have hI : SR _ _ _ _ a w := hI
    have e42 := hI.g 42 rfl
    have hw : w = W := hI.wp
    subst hw
    go_simp
    exact hI.put (d := 43) (by decide) (by simp)
  · intro a w hI
    have hI : SR _ _ _ _ a w := hI
    have e43 := hI.g 43 rfl
    have hw : w = W := hI.wp
    subst hw
    go_simp
    exact hI.put (d := 44) (by decide) (by simp)
  · intro a w hI
    have hI : SR _ _ _ _ a w := hI
    have e44 := hI.g 44 rfl
    have hw : w = W := hI.wp
    subst hw
    go_simp
    exact hI.put (d := 45) (by decide) (by simp)
  · intro a w hI
    have hI : SR _ _ _ _ a w := hI
    have hw : w = W := hI.wp
    subst hw
    go_simp
    exact hI.put (d := 9) (by decide) (by simp)
  · intro a w hI
    have hI : SR _ _ _ _ a w := hI
    have e9 := hI.g 9 rfl
    have e45 := hI.g 45 rfl
    obtain rfl := hI.wp
    go_simp
    exact SR.sub (kn' := (sg ga oa L pc bx v5 v6 v7 i ++ [(9, .pointer (some ⟨W.heap.size, 0, none⟩))])) hI.none (by intro p hp; simp only [List.mem_append, List.mem_cons, List.not_mem_nil, or_false] at hp ⊢; rcases hp with hp | hp <;> simp [hp])
  · intro a w hI
    have hI : SR _ _ _ _ a w := hI
    obtain rfl := hI.wp
    exact hQ a hI
set_option maxRecDepth 100000 in
set_option maxHeartbeats 4000000 in
theorem tt12 (n : Nat) (W : World) (ga oa L pc : Nat) (bx : Nat) (v5 v6 v7 : Value) (i : Nat) (hb : Nat)  (Q : Exit → Act → World → Prop) (a : Act) (h0 : SR (sg ga oa L pc bx v5 v6 v7 i ++ [(9, .pointer (some ⟨hb, 0, none⟩))]) 190 [] W a W)
    (hQ : ∀ a, SR (sg ga oa L pc bx v5 v6 v7 i ++ [(9, .pointer (some ⟨hb, 0, none⟩)), (10, Value.pointer none)]) 190 [] (W) a (W) → Q .normal a (W)) : (regOf 12 C5).wpIn Fence.wide n Try.prog Q a W := by
  simp only [regOf, C5, Try.f5, Option.getD, Nat.reduceBEq, Bool.false_eq_true, if_true, if_false]
  refine region_sq (fun k_ a w => match k_ with | 0 => SR (sg ga oa L pc bx v5 v6 v7 i ++ [(9, .pointer (some ⟨hb, 0, none⟩))]) 190 [] (W) a w | _ => SR (sg ga oa L pc bx v5 v6 v7 i ++ [(9, .pointer (some ⟨hb, 0, none⟩)), (10, Value.pointer none)]) 190 [] (W) a w) (show SR _ _ _ _ a W from h0) ⟨?_, trivial⟩ ?_
  · intro a w hI
    have hI : SR _ _ _ _ a w := hI
    have hw : w = W := hI.wp
    subst hw
    go_simp
    exact hI.put (d := 10) (by decide) (by simp)
  · intro a w hI
    have hI : SR _ _ _ _ a w := hI
    have hw : w = W := hI.wp
    subst hw
    exact hQ a hI
set_option maxRecDepth 100000 in
set_option maxHeartbeats 4000000 in
theorem tt13 (n : Nat) (W : World) (ga oa L pc : Nat) (bx : Nat) (v5 v6 v7 : Value) (i : Nat) (hb : Nat) (nl : Bool) (hi : i < L)  (k4 : W.cell? ⟨ga, oa + i * 5 + 4, none⟩ = some (.bool nl)) (Q : Exit → Act → World → Prop) (a : Act) (h0 : SR (sg ga oa L pc bx v5 v6 v7 i ++ [(9, .pointer (some ⟨hb, 0, none⟩)), (10, .pointer none)]) 190 [] W a W)
    (hQ : ∀ a, SR (sg ga oa L pc bx v5 v6 v7 i ++ [(9, .pointer (some ⟨hb, 0, none⟩)), (10, .pointer none), (51, .bool (!nl))]) 190 [] (W) a (W) → Q .normal a (W)) : (regOf 13 C5).wpIn Fence.wide n Try.prog Q a W := by
  simp only [regOf, C5, Try.f5, Option.getD, Nat.reduceBEq, Bool.false_eq_true, if_true, if_false]
  refine region_sq (fun k_ a w => match k_ with | 0 => SR (sg ga oa L pc bx v5 v6 v7 i ++ [(9, .pointer (some ⟨hb, 0, none⟩)), (10, .pointer none)]) 190 [] (W) a w | 1 => SR (sg ga oa L pc bx v5 v6 v7 i ++ [(9, .pointer (some ⟨hb, 0, none⟩)), (10, .pointer none), (46, .slice (some ⟨ga, oa, none⟩) L pc)]) 190 [] (W) a w | 2 => SR (sg ga oa L pc bx v5 v6 v7 i ++ [(9, .pointer (some ⟨hb, 0, none⟩)), (10, .pointer none), (46, .slice (some ⟨ga, oa, none⟩) L pc), (47, .int .i64 i)]) 190 [] (W) a w | 3 => SR (sg ga oa L pc bx v5 v6 v7 i ++ [(9, .pointer (some ⟨hb, 0, none⟩)), (10, .pointer none), (48, .pointer (some ⟨ga, oa + i * 5, none⟩))]) 190 [] (W) a w | 4 => SR (sg ga oa L pc bx v5 v6 v7 i ++ [(9, .pointer (some ⟨hb, 0, none⟩)), (10, .pointer none), (49, .pointer (some ⟨ga, oa + i * 5 + 4, none⟩))]) 190 [] (W) a w | 5 => SR (sg ga oa L pc bx v5 v6 v7 i ++ [(9, .pointer (some ⟨hb, 0, none⟩)), (10, .pointer none), (50, .bool nl)]) 190 [] (W) a w | _ => SR (sg ga oa L pc bx v5 v6 v7 i ++ [(9, .pointer (some ⟨hb, 0, none⟩)), (10, .pointer none), (51, .bool (!nl))]) 190 [] (W) a w) (show SR _ _ _ _ a W from h0) ⟨?_, ?_, ?_, ?_, ?_, ?_, trivial⟩ ?_
  · intro a w hI
    have hI : SR _ _ _ _ a w := hI
    have e0 := hI.g 0 rfl
    have hw : w = W := hI.wp
    subst hw
    go_simp
    exact hI.put (d := 46) (by decide) (by simp)
  · intro a w hI
    have hI : SR _ _ _ _ a w := hI
    have e8 := hI.g 8 rfl
    have hw : w = W := hI.wp
    subst hw
    go_simp
    exact hI.put (d := 47) (by decide) (by simp)
  · intro a w hI
    have hI : SR _ _ _ _ a w := hI
    have e46 := hI.g 46 rfl
    have e47 := hI.g 47 rfl
    have hw : w = W := hI.wp
    subst hw
    have q1_2 : (0 : Int) ≤ i := by omega
    have q2_2 : (i : Int) < L := by omega
    go_simp
    exact hI.put (d := 48) (by decide) (by simp)
  · intro a w hI
    have hI : SR _ _ _ _ a w := hI
    have e48 := hI.g 48 rfl
    have hw : w = W := hI.wp
    subst hw
    go_simp
    exact hI.put (d := 49) (by decide) (by simp)
  · intro a w hI
    have hI : SR _ _ _ _ a w := hI
    have e49 := hI.g 49 rfl
    have hw : w = W := hI.wp
    subst hw
    go_simp
    exact hI.put (d := 50) (by decide) (by simp)
  · intro a w hI
    have hI : SR _ _ _ _ a w := hI
    have e50 := hI.g 50 rfl
    have hw : w = W := hI.wp
    subst hw
    go_simp
    exact hI.put (d := 51) (by decide) (by simp)
  · intro a w hI
    have hI : SR _ _ _ _ a w := hI
    have hw : w = W := hI.wp
    subst hw
    exact hQ a hI
set_option maxRecDepth 100000 in
set_option maxHeartbeats 8000000 in
theorem tt14 (n : Nat) {G : World → Prop} (ga oa L pc : Nat) (bx : Nat) (v5 v6 v7 : Value) (i : Nat) (hb : Nat) (se : Option Addr) (EL ec : Nat) (hi : i < L)  {G1 : Nat → World → Prop} {G2 : Nat → World → Prop} (k3 : ∀ w, G w → w.cell? ⟨ga, oa + i * 5 + 3, none⟩ = some (.slice se EL ec)) (hof : ∀ (m : Nat) (w : World), G w → CallsIn Fence.wide m Try.prog 12 #[.slice se EL ec, .slice none 0 0] w fun e w' => ∃ r1, e = .returned (.pointer (some ⟨r1, 0, none⟩)) ∧ G1 r1 w') (cw7 : ∀ (r1 : Nat) (w : World), (G1 r1) w → ∃ v, w.cell? ⟨hb, 3, none⟩ = some v) (fw7 : ∀ (r1 : Nat) (w : World), (G1 r1) w → w.frozen? ⟨hb, 3, none⟩ = false) (hst7 : ∀ (r1 : Nat) (w : World), (G1 r1) w → G2 r1 (w.setCell ⟨hb, 3, none⟩ (.pointer (some ⟨r1, 0, none⟩)))) (Q : Exit → Act → World → Prop) (a : Act) (w : World) (h0 : SG (sg ga oa L pc bx v5 v6 v7 i ++ [(9, .pointer (some ⟨hb, 0, none⟩))]) 190 G a w)
    (hQ : ∀ (r1 : Nat) a w, SG (sg ga oa L pc bx v5 v6 v7 i ++ [(9, .pointer (some ⟨hb, 0, none⟩))]) 190 (G2 r1) a w → Q .normal a w) : (regOf 14 C5).wpIn Fence.wide n Try.prog Q a w := by
  simp only [regOf, C5, Try.f5, Option.getD, Nat.reduceBEq, Bool.false_eq_true, if_true, if_false]
  refine region_sq (fun k_ a w => match k_ with | 0 => SG (sg ga oa L pc bx v5 v6 v7 i ++ [(9, .pointer (some ⟨hb, 0, none⟩))]) 190 G a w | 1 => SG (sg ga oa L pc bx v5 v6 v7 i ++ [(9, .pointer (some ⟨hb, 0, none⟩)), (52, .slice (some ⟨ga, oa, none⟩) L pc)]) 190 G a w | 2 => SG (sg ga oa L pc bx v5 v6 v7 i ++ [(9, .pointer (some ⟨hb, 0, none⟩)), (52, .slice (some ⟨ga, oa, none⟩) L pc), (53, .int .i64 i)]) 190 G a w | 3 => SG (sg ga oa L pc bx v5 v6 v7 i ++ [(9, .pointer (some ⟨hb, 0, none⟩)), (54, .pointer (some ⟨ga, oa + i * 5, none⟩))]) 190 G a w | 4 => SG (sg ga oa L pc bx v5 v6 v7 i ++ [(9, .pointer (some ⟨hb, 0, none⟩)), (55, .pointer (some ⟨ga, oa + i * 5 + 3, none⟩))]) 190 G a w | 5 => SG (sg ga oa L pc bx v5 v6 v7 i ++ [(9, .pointer (some ⟨hb, 0, none⟩)), (56, .slice se EL ec)]) 190 G a w | 6 => ∃ r1, SG (sg ga oa L pc bx v5 v6 v7 i ++ [(9, .pointer (some ⟨hb, 0, none⟩)), (57, .pointer (some ⟨r1, 0, none⟩))]) 190 (G1 r1) a w | 7 => ∃ r1, SG (sg ga oa L pc bx v5 v6 v7 i ++ [(9, .pointer (some ⟨hb, 0, none⟩)), (57, .pointer (some ⟨r1, 0, none⟩)), (58, .pointer (some ⟨hb, 3, none⟩))]) 190 (G1 r1) a w | _ => ∃ r1, SG (sg ga oa L pc bx v5 v6 v7 i ++ [(9, .pointer (some ⟨hb, 0, none⟩))]) 190 (G2 r1) a w) (show SG _ _ G a w from h0) ⟨?_, ?_, ?_, ?_, ?_, ?_, ?_, ?_, trivial⟩ ?_
  · intro a w hI
    have hI : SG _ _ _ a w := hI
    have e0 := hI.g 0 rfl
    go_simp
    exact hI.put (d := 52) (by decide) (by simp) hI.wp
  · intro a w hI
    have hI : SG _ _ _ a w := hI
    have e8 := hI.g 8 rfl
    go_simp
    exact hI.put (d := 53) (by decide) (by simp) hI.wp
  · intro a w hI
    have hI : SG _ _ _ a w := hI
    have e52 := hI.g 52 rfl
    have e53 := hI.g 53 rfl
    have q1_2 : (0 : Int) ≤ i := by omega
    have q2_2 : (i : Int) < L := by omega
    go_simp
    exact hI.put (d := 54) (by decide) (by simp) hI.wp
  · intro a w hI
    have hI : SG _ _ _ a w := hI
    have e54 := hI.g 54 rfl
    go_simp
    exact hI.put (d := 55) (by decide) (by simp) hI.wp
  · intro a w hI
    have hI : SG _ _ _ a w := hI
    have e55 := hI.g 55 rfl
    have cc0 := k3 w hI.wp
    go_simp
    exact hI.put (d := 56) (by decide) (by simp) hI.wp
  · intro a w hI
    have hI : SG _ _ _ a w := hI
    have e56 := hI.g 56 rfl
    go_simp
    refine ⟨trivial, fun h => (by cases h), (hof (n - 1) w hI.wp).mono ?_⟩
    rintro e w' ⟨r1, rfl, hg2⟩
    exact ⟨r1, hI.put (d := 57) (by decide) (by simp) hg2⟩
  · rintro a w ⟨r1, hI⟩
    have e9 := hI.g 9 rfl
    go_simp
    exact ⟨r1, hI.put (d := 58) (by decide) (by simp) hI.wp⟩
  · rintro a w ⟨r1, hI⟩
    have e58 := hI.g 58 rfl
    have e57 := hI.g 57 rfl
    obtain ⟨v0, cw0⟩ := cw7 r1 w hI.wp
    have fw0 := fw7 r1 w hI.wp
    go_simp
    exact ⟨r1, SG.sub (kn' := (sg ga oa L pc bx v5 v6 v7 i ++ [(9, .pointer (some ⟨hb, 0, none⟩))])) (hI.none (hst7 r1 w hI.wp)) (by intro p hp; simp only [List.mem_append, List.mem_cons, List.not_mem_nil, or_false] at hp ⊢; rcases hp with hp | hp <;> simp [hp])⟩
  · rintro a w ⟨r1, hI⟩
    exact hQ r1 a w hI
set_option maxRecDepth 100000 in
set_option maxHeartbeats 8000000 in
theorem tt15 (n : Nat) {G : World → Prop} (ga oa L pc : Nat) (bx : Nat) (v5 v6 v7 : Value) (i : Nat) (hb : Nat) (se : Option Addr) (EL ec : Nat) (hi : i < L)  {G1 : Nat → World → Prop} (k3 : ∀ w, G w → w.cell? ⟨ga, oa + i * 5 + 3, none⟩ = some (.slice se EL ec)) (hof : ∀ (m : Nat) (w : World), G w → CallsIn Fence.wide m Try.prog 12 #[.slice se EL ec, .slice none 0 0] w fun e w' => ∃ r2, e = .returned (.pointer (some ⟨r2, 0, none⟩)) ∧ G1 r2 w') (Q : Exit → Act → World → Prop) (a : Act) (w : World) (h0 : SG (sg ga oa L pc bx v5 v6 v7 i ++ [(9, .pointer (some ⟨hb, 0, none⟩))]) 190 G a w)
    (hQ : ∀ (r2 : Nat) a w, SG (sg ga oa L pc bx v5 v6 v7 i ++ [(9, .pointer (some ⟨hb, 0, none⟩)), (10, .pointer (some ⟨r2, 0, none⟩))]) 190 (G1 r2) a w → Q .normal a w) : (regOf 15 C5).wpIn Fence.wide n Try.prog Q a w := by
  simp only [regOf, C5, Try.f5, Option.getD, Nat.reduceBEq, Bool.false_eq_true, if_true, if_false]
  refine region_sq (fun k_ a w => match k_ with | 0 => SG (sg ga oa L pc bx v5 v6 v7 i ++ [(9, .pointer (some ⟨hb, 0, none⟩))]) 190 G a w | 1 => SG (sg ga oa L pc bx v5 v6 v7 i ++ [(9, .pointer (some ⟨hb, 0, none⟩)), (59, .slice (some ⟨ga, oa, none⟩) L pc)]) 190 G a w | 2 => SG (sg ga oa L pc bx v5 v6 v7 i ++ [(9, .pointer (some ⟨hb, 0, none⟩)), (59, .slice (some ⟨ga, oa, none⟩) L pc), (60, .int .i64 i)]) 190 G a w | 3 => SG (sg ga oa L pc bx v5 v6 v7 i ++ [(9, .pointer (some ⟨hb, 0, none⟩)), (61, .pointer (some ⟨ga, oa + i * 5, none⟩))]) 190 G a w | 4 => SG (sg ga oa L pc bx v5 v6 v7 i ++ [(9, .pointer (some ⟨hb, 0, none⟩)), (62, .pointer (some ⟨ga, oa + i * 5 + 3, none⟩))]) 190 G a w | 5 => SG (sg ga oa L pc bx v5 v6 v7 i ++ [(9, .pointer (some ⟨hb, 0, none⟩)), (63, .slice se EL ec)]) 190 G a w | 6 => ∃ r2, SG (sg ga oa L pc bx v5 v6 v7 i ++ [(9, .pointer (some ⟨hb, 0, none⟩)), (64, .pointer (some ⟨r2, 0, none⟩))]) 190 (G1 r2) a w | _ => ∃ r2, SG (sg ga oa L pc bx v5 v6 v7 i ++ [(9, .pointer (some ⟨hb, 0, none⟩)), (10, .pointer (some ⟨r2, 0, none⟩))]) 190 (G1 r2) a w) (show SG _ _ G a w from h0) ⟨?_, ?_, ?_, ?_, ?_, ?_, ?_, trivial⟩ ?_
  · intro a w hI
    have hI : SG _ _ _ a w := hI
    have e0 := hI.g 0 rfl
    go_simp
    exact hI.put (d := 59) (by decide) (by simp) hI.wp
  · intro a w hI
    have hI : SG _ _ _ a w := hI
    have e8 := hI.g 8 rfl
    go_simp
    exact hI.put (d := 60) (by decide) (by simp) hI.wp
  · intro a w hI
    have hI : SG _ _ _ a w := hI
    have e59 := hI.g 59 rfl
    have e60 := hI.g 60 rfl
    have q1_2 : (0 : Int) ≤ i := by omega
    have q2_2 : (i : Int) < L := by omega
    go_simp
    exact hI.put (d := 61) (by decide) (by simp) hI.wp
  · intro a w hI
    have hI : SG _ _ _ a w := hI
    have e61 := hI.g 61 rfl
    go_simp
    exact hI.put (d := 62) (by decide) (by simp) hI.wp
  · intro a w hI
    have hI : SG _ _ _ a w := hI
    have e62 := hI.g 62 rfl
    have cc0 := k3 w hI.wp
    go_simp
    exact hI.put (d := 63) (by decide) (by simp) hI.wp
  · intro a w hI
    have hI : SG _ _ _ a w := hI
    have e63 := hI.g 63 rfl
    go_simp
    refine ⟨trivial, fun h => (by cases h), (hof (n - 1) w hI.wp).mono ?_⟩
    rintro e w' ⟨r2, rfl, hg2⟩
    exact ⟨r2, hI.put (d := 64) (by decide) (by simp) hg2⟩
  · rintro a w ⟨r2, hI⟩
    have e64 := hI.g 64 rfl
    go_simp
    exact ⟨r2, hI.put (d := 10) (by decide) (by simp) hI.wp⟩
  · rintro a w ⟨r2, hI⟩
    exact hQ r2 a w hI
set_option maxRecDepth 100000 in
set_option maxHeartbeats 8000000 in
theorem tt16 (n : Nat) {G : World → Prop} (ga oa L pc : Nat) (bx : Nat) (v5 v6 v7 : Value) (i : Nat) (hb : Nat) (r1 r2 : Nat) (K : Nat → Nat) (hK : ∀ j, K j ≤ 5000)  (hS0 : Stable G) (m3 : ∀ w, G w → w.cell? ⟨hb, 3, none⟩ = some (.pointer (some ⟨r1, 0, none⟩))) (hk : ∀ (m : Nat) (w : World), G w → CallsIn Fence.wide m Try.prog 14 #[.pointer (some ⟨r1, 0, none⟩)] w fun e w' => e = .returned (.agg (arrK K)) ∧ Below w.heap.size w w') (hr : ∀ (m : Nat) (w : World), G w → CallsIn Fence.wide m Try.prog 17 #[.pointer (some ⟨r2, 0, none⟩)] w fun e w' => e = .returned (.agg (arrK K)) ∧ Below w.heap.size w w') (Q : Exit → Act → World → Prop) (a : Act) (w : World) (h0 : SG (sg ga oa L pc bx v5 v6 v7 i ++ [(9, .pointer (some ⟨hb, 0, none⟩)), (10, .pointer (some ⟨r2, 0, none⟩))]) 190 G a w)
    (hQ : ∀ a w, SG (sg ga oa L pc bx v5 v6 v7 i ++ [(9, .pointer (some ⟨hb, 0, none⟩)), (10, .pointer (some ⟨r2, 0, none⟩)), (70, .bool false)]) 190 G a w → Q .normal a w) : (regOf 16 C5).wpIn Fence.wide n Try.prog Q a w := by
  simp only [regOf, C5, Try.f5, Option.getD, Nat.reduceBEq, Bool.false_eq_true, if_true, if_false]
  refine region_sq (fun k_ a w => match k_ with | 0 => SG (sg ga oa L pc bx v5 v6 v7 i ++ [(9, .pointer (some ⟨hb, 0, none⟩)), (10, .pointer (some ⟨r2, 0, none⟩))]) 190 G a w | 1 => SG (sg ga oa L pc bx v5 v6 v7 i ++ [(9, .pointer (some ⟨hb, 0, none⟩)), (10, .pointer (some ⟨r2, 0, none⟩)), (65, .pointer (some ⟨hb, 3, none⟩))]) 190 G a w | 2 => SG (sg ga oa L pc bx v5 v6 v7 i ++ [(9, .pointer (some ⟨hb, 0, none⟩)), (10, .pointer (some ⟨r2, 0, none⟩)), (66, .pointer (some ⟨r1, 0, none⟩))]) 190 G a w | 3 => SG (sg ga oa L pc bx v5 v6 v7 i ++ [(9, .pointer (some ⟨hb, 0, none⟩)), (10, .pointer (some ⟨r2, 0, none⟩)), (67, .agg (arrK K))]) 190 G a w | 4 => SG (sg ga oa L pc bx v5 v6 v7 i ++ [(9, .pointer (some ⟨hb, 0, none⟩)), (10, .pointer (some ⟨r2, 0, none⟩)), (67, .agg (arrK K)), (68, .pointer (some ⟨r2, 0, none⟩))]) 190 G a w | 5 => SG (sg ga oa L pc bx v5 v6 v7 i ++ [(9, .pointer (some ⟨hb, 0, none⟩)), (10, .pointer (some ⟨r2, 0, none⟩)), (67, .agg (arrK K)), (69, .agg (arrK K))]) 190 G a w | _ => SG (sg ga oa L pc bx v5 v6 v7 i ++ [(9, .pointer (some ⟨hb, 0, none⟩)), (10, .pointer (some ⟨r2, 0, none⟩)), (70, .bool false)]) 190 G a w) (show SG _ _ G a w from h0) ⟨?_, ?_, ?_, ?_, ?_, ?_, trivial⟩ ?_
  · intro a w hI
    have hI : SG _ _ _ a w := hI
    have e9 := hI.g 9 rfl
    go_simp
    exact hI.put (d := 65) (by decide) (by simp) hI.wp
  · intro a w hI
    have hI : SG _ _ _ a w := hI
    have e65 := hI.g 65 rfl
    have cc0 := m3 w hI.wp
    go_simp
    exact hI.put (d := 66) (by decide) (by simp) hI.wp
  · intro a w hI
    have hI : SG _ _ _ a w := hI
    have e66 := hI.g 66 rfl
    go_simp
    refine ⟨trivial, fun h => (by cases h), (hk (n - 1) w hI.wp).mono ?_⟩
    rintro e w' ⟨rfl, hb2⟩
    exact hI.put (d := 67) (by decide) (by simp) (hS0 _ _ hI.wp hb2)
  · intro a w hI
    have hI : SG _ _ _ a w := hI
    have e10 := hI.g 10 rfl
    go_simp
    exact hI.put (d := 68) (by decide) (by simp) hI.wp
  · intro a w hI
    have hI : SG _ _ _ a w := hI
    have e68 := hI.g 68 rfl
    go_simp
    refine ⟨trivial, fun h => (by cases h), (hr (n - 1) w hI.wp).mono ?_⟩
    rintro e w' ⟨rfl, hb2⟩
    exact hI.put (d := 69) (by decide) (by simp) (hS0 _ _ hI.wp hb2)
  · intro a w hI
    have hI : SG _ _ _ a w := hI
    have e67 := hI.g 67 rfl
    have e69 := hI.g 69 rfl
    rw [if_pos (by simp [Region.wanted])]
    refine operIn_bin .neq (.tmp 67) (.tmp 69) 39 39 rfl (.bool false) (by rw [eval_tmp, eval_tmp, e67, e69]; exact guard39K _ _ _ _) (by rw [eval_tmp, eval_tmp, e67, e69]; exact neq39K hK _) ?_
    exact hI.put (d := 70) (by decide) (by simp) hI.wp
  · intro a w hI
    have hI : SG _ _ _ a w := hI
    exact hQ a w hI
set_option maxRecDepth 100000 in
set_option maxHeartbeats 8000000 in
theorem tt18 (n : Nat) {G : World → Prop} (ga oa L pc : Nat) (bx : Nat) (v5 v6 v7 : Value) (i : Nat) (hb : Nat) (dp : Option Addr) (cp : Option Addr) (p : Sp3) (B0 c : Nat) (hc : c ≤ 12) (xs : List Value)  {G1 : Nat → World → Prop} {G2 : Nat → Value → World → Prop} (m0 : ∀ w, G w → w.cell? ⟨hb, 0, none⟩ = some (.int .i64 (p.1))) (m1 : ∀ w, G w → w.cell? ⟨hb, 1, none⟩ = some (.int .i64 (p.2.1))) (m2 : ∀ w, G w → w.cell? ⟨hb, 2, none⟩ = some (.int .i64 (p.2.2))) (m3 : ∀ w, G w → w.cell? ⟨hb, 3, none⟩ = some (.pointer cp)) (hst2 : ∀ (w : World), G w → G1  w.heap.size (w.alloc (.cells #[.int .i64 p.1, .int .i64 p.2.1, .int .i64 p.2.2, .pointer cp] 58))) (hown3 : ∀ (g : Nat) (w : World), (G1 g) w → w.ownsRow B0 58 4 v5 c xs) (hbs3 : ∀ (g : Nat) (w : World), (G1 g) w → B0 ≤ w.heap.size) (hnew3 : ∀ (g : Nat) (w : World), (G1 g) w → ∀ j u, ([.int .i64 p.1, .int .i64 p.2.1, .int .i64 p.2.2, .pointer cp] : List Value)[j]? = some u → w.cell? ⟨g, j, none⟩ = some u) (hap3 : ∀ (g : Nat) (w w' : World) (v' : Value), (G1 g) w → w'.ownsRow B0 58 4 v' (c + 1) (xs ++ [.int .i64 p.1, .int .i64 p.2.1, .int .i64 p.2.2, .pointer cp]) → w.grownBy w' (v5).ownBlock → G2 g v' w') (Q : Exit → Act → World → Prop) (a : Act) (w : World) (h0 : SG (sg ga oa L pc bx v5 v6 v7 i ++ [(9, .pointer (some ⟨hb, 0, none⟩)), (10, .pointer dp)]) 190 G a w)
    (hQ : ∀ (g : Nat) (v' : Value) a w, SG [(0, .slice (some ⟨ga, oa, none⟩) L pc), (3, .pointer (some ⟨bx, 0, none⟩)), (5, v'), (6, v6), (7, v7), (8, .int .i64 i), (9, .pointer (some ⟨hb, 0, none⟩)), (10, .pointer dp)] 190 (G2 g v') a w → Q .normal a w) : (regOf 18 C5).wpIn Fence.wide n Try.prog Q a w := by
  simp only [regOf, C5, Try.f5, Option.getD, Nat.reduceBEq, Bool.false_eq_true, if_true, if_false]
  refine region_sq (fun k_ a w => match k_ with | 0 => SG (sg ga oa L pc bx v5 v6 v7 i ++ [(9, .pointer (some ⟨hb, 0, none⟩)), (10, .pointer dp)]) 190 G a w | 1 => SG [(0, .slice (some ⟨ga, oa, none⟩) L pc), (3, .pointer (some ⟨bx, 0, none⟩)), (6, v6), (7, v7), (8, .int .i64 i), (9, .pointer (some ⟨hb, 0, none⟩)), (10, .pointer dp), (71, v5)] 190 G a w | 2 => SG [(0, .slice (some ⟨ga, oa, none⟩) L pc), (3, .pointer (some ⟨bx, 0, none⟩)), (6, v6), (7, v7), (8, .int .i64 i), (9, .pointer (some ⟨hb, 0, none⟩)), (10, .pointer dp), (71, v5), (72, .agg #[.int .i64 (p.1), .int .i64 (p.2.1), .int .i64 (p.2.2), .pointer cp])] 190 G a w | 3 => ∃ g, SG [(0, .slice (some ⟨ga, oa, none⟩) L pc), (3, .pointer (some ⟨bx, 0, none⟩)), (6, v6), (7, v7), (8, .int .i64 i), (9, .pointer (some ⟨hb, 0, none⟩)), (10, .pointer dp), (71, v5), (73, .slice (some ⟨g, 0, none⟩) 1 1)] 190 (G1 g) a w | 4 => ∃ g v', SG [(0, .slice (some ⟨ga, oa, none⟩) L pc), (3, .pointer (some ⟨bx, 0, none⟩)), (6, v6), (7, v7), (8, .int .i64 i), (9, .pointer (some ⟨hb, 0, none⟩)), (10, .pointer dp), (74, v')] 190 (G2 g v') a w | _ => ∃ g v', SG [(0, .slice (some ⟨ga, oa, none⟩) L pc), (3, .pointer (some ⟨bx, 0, none⟩)), (6, v6), (7, v7), (8, .int .i64 i), (9, .pointer (some ⟨hb, 0, none⟩)), (10, .pointer dp), (5, v')] 190 (G2 g v') a w) (show SG _ _ G a w from h0) ⟨?_, ?_, ?_, ?_, ?_, trivial⟩ ?_
  · intro a w hI
    have hI : SG _ _ _ a w := hI
    have e5 := hI.g 5 rfl
    go_simp
    exact hI.put (d := 71) (by decide) (by simp) hI.wp
  · intro a w hI
    have hI : SG _ _ _ a w := hI
    have e9 := hI.g 9 rfl
    have cc0 := m0 w hI.wp
    have cc1 := m1 w hI.wp
    have cc2 := m2 w hI.wp
    have cc3 := m3 w hI.wp
    go_simp
    exact hI.put (d := 72) (by decide) (by simp) hI.wp
  · intro a w hI
    have hI : SG _ _ _ a w := hI
    have e72 := hI.g 72 rfl
    go_simp
    exact ⟨w.heap.size, hI.put (d := 73) (by decide) (by simp) (hst2 w hI.wp)⟩
  · rintro a w ⟨g, hI⟩
    have e71 := hI.g 71 rfl
    have e73 := hI.g 73 rfl
    rw [if_pos (by simp [Region.wanted])]
    obtain ⟨i0, hi, hz0, hz1, hz2⟩ := info_parts info58
    refine operIn_append (.tmp 71) (.tmp 73) 52 rfl B0 58 i0 (.agg #[.int .i64 0, .int .i64 0, .int .i64 0, .pointer none]) 4 32 Try.underlying52 hi hz0 hz1 hz2 rfl (by decide) (v5) c xs (by rw [eval_tmp, e71]) (hown3 g w hI.wp) ⟨g, 0, none⟩ 1 1 [.int .i64 p.1, .int .i64 p.2.1, .int .i64 p.2.2, .pointer cp] (by rw [eval_tmp, e73]) rfl (fun j u hj => by rw [add_none, Nat.zero_add]; exact hnew3 g w hI.wp j u hj) (by simp [Value.oneCell']) (by unfold maxLen; omega) (by omega) (hbs3 g w hI.wp) ?_
    intro V2 w1 h1 h2 h3
    exact ⟨g, V2, hI.put (d := 74) (by decide) (by simp) (hap3 g w w1 V2 hI.wp h1 h2)⟩
  · rintro a w ⟨g, v', hI⟩
    have e74 := hI.g 74 rfl
    go_simp
    exact ⟨g, v', hI.put (d := 5) (by decide) (by simp) hI.wp⟩
  · rintro a w ⟨g, v', hI⟩
    exact hQ g v' a w (hI.sub (by intro p hp; simp only [List.mem_cons, List.not_mem_nil, or_false] at hp ⊢; rcases hp with h | h | h | h | h | h | h | h <;> simp [h]))
set_option maxRecDepth 100000 in
set_option maxHeartbeats 8000000 in
theorem tt19 (n : Nat) {G : World → Prop} (ga oa L pc : Nat) (bx : Nat) (v5 v6 v7 : Value) (i : Nat) (hb : Nat) (dp : Option Addr) (p : Sp3) (B0 c : Nat) (hc : c ≤ 12) (xs : List Value) (hi : i < L)  {G1 : Nat → World → Prop} {G2 : Nat → Value → World → Prop} (k0 : ∀ w, G w → w.cell? ⟨ga, oa + i * 5, none⟩ = some (.int .i64 (p.1))) (k1 : ∀ w, G w → w.cell? ⟨ga, oa + i * 5 + 1, none⟩ = some (.int .i64 (p.2.1))) (k2 : ∀ w, G w → w.cell? ⟨ga, oa + i * 5 + 2, none⟩ = some (.int .i64 (p.2.2))) (hst6 : ∀ (w : World), G w → G1  w.heap.size (w.alloc (.cells #[.int .i64 p.1, .int .i64 p.2.1, .int .i64 p.2.2] 33))) (hown7 : ∀ (g : Nat) (w : World), (G1 g) w → w.ownsRow B0 33 3 v6 c xs) (hbs7 : ∀ (g : Nat) (w : World), (G1 g) w → B0 ≤ w.heap.size) (hnew7 : ∀ (g : Nat) (w : World), (G1 g) w → ∀ j u, ([.int .i64 p.1, .int .i64 p.2.1, .int .i64 p.2.2] : List Value)[j]? = some u → w.cell? ⟨g, j, none⟩ = some u) (hap7 : ∀ (g : Nat) (w w' : World) (v' : Value), (G1 g) w → w'.ownsRow B0 33 3 v' (c + 1) (xs ++ [.int .i64 p.1, .int .i64 p.2.1, .int .i64 p.2.2]) → w.grownBy w' (v6).ownBlock → G2 g v' w') (Q : Exit → Act → World → Prop) (a : Act) (w : World) (h0 : SG (sg ga oa L pc bx v5 v6 v7 i ++ [(9, .pointer (some ⟨hb, 0, none⟩)), (10, .pointer dp)]) 190 G a w)
    (hQ : ∀ (g : Nat) (v' : Value) a w, SG [(0, .slice (some ⟨ga, oa, none⟩) L pc), (3, .pointer (some ⟨bx, 0, none⟩)), (5, v5), (6, v'), (7, v7), (8, .int .i64 i), (9, .pointer (some ⟨hb, 0, none⟩)), (10, .pointer dp)] 190 (G2 g v') a w → Q .normal a w) : (regOf 19 C5).wpIn Fence.wide n Try.prog Q a w := by
  simp only [regOf, C5, Try.f5, Option.getD, Nat.reduceBEq, Bool.false_eq_true, if_true, if_false]
  refine region_sq (fun k_ a w => match k_ with | 0 => SG (sg ga oa L pc bx v5 v6 v7 i ++ [(9, .pointer (some ⟨hb, 0, none⟩)), (10, .pointer dp)]) 190 G a w | 1 => SG [(0, .slice (some ⟨ga, oa, none⟩) L pc), (3, .pointer (some ⟨bx, 0, none⟩)), (5, v5), (7, v7), (8, .int .i64 i), (9, .pointer (some ⟨hb, 0, none⟩)), (10, .pointer dp), (75, v6)] 190 G a w | 2 => SG [(0, .slice (some ⟨ga, oa, none⟩) L pc), (3, .pointer (some ⟨bx, 0, none⟩)), (5, v5), (7, v7), (8, .int .i64 i), (9, .pointer (some ⟨hb, 0, none⟩)), (10, .pointer dp), (75, v6), (76, .slice (some ⟨ga, oa, none⟩) L pc)] 190 G a w | 3 => SG [(0, .slice (some ⟨ga, oa, none⟩) L pc), (3, .pointer (some ⟨bx, 0, none⟩)), (5, v5), (7, v7), (8, .int .i64 i), (9, .pointer (some ⟨hb, 0, none⟩)), (10, .pointer dp), (75, v6), (76, .slice (some ⟨ga, oa, none⟩) L pc), (77, .int .i64 i)] 190 G a w | 4 => SG [(0, .slice (some ⟨ga, oa, none⟩) L pc), (3, .pointer (some ⟨bx, 0, none⟩)), (5, v5), (7, v7), (8, .int .i64 i), (9, .pointer (some ⟨hb, 0, none⟩)), (10, .pointer dp), (75, v6), (78, .pointer (some ⟨ga, oa + i * 5, none⟩))] 190 G a w | 5 => SG [(0, .slice (some ⟨ga, oa, none⟩) L pc), (3, .pointer (some ⟨bx, 0, none⟩)), (5, v5), (7, v7), (8, .int .i64 i), (9, .pointer (some ⟨hb, 0, none⟩)), (10, .pointer dp), (75, v6), (79, .pointer (some ⟨ga, oa + i * 5, none⟩))] 190 G a w | 6 => SG [(0, .slice (some ⟨ga, oa, none⟩) L pc), (3, .pointer (some ⟨bx, 0, none⟩)), (5, v5), (7, v7), (8, .int .i64 i), (9, .pointer (some ⟨hb, 0, none⟩)), (10, .pointer dp), (75, v6), (80, .agg #[.int .i64 (p.1), .int .i64 (p.2.1), .int .i64 (p.2.2)])] 190 G a w | 7 => ∃ g, SG [(0, .slice (some ⟨ga, oa, none⟩) L pc), (3, .pointer (some ⟨bx, 0, none⟩)), (5, v5), (7, v7), (8, .int .i64 i), (9, .pointer (some ⟨hb, 0, none⟩)), (10, .pointer dp), (75, v6), (81, .slice (some ⟨g, 0, none⟩) 1 1)] 190 (G1 g) a w | 8 => ∃ g v', SG [(0, .slice (some ⟨ga, oa, none⟩) L pc), (3, .pointer (some ⟨bx, 0, none⟩)), (5, v5), (7, v7), (8, .int .i64 i), (9, .pointer (some ⟨hb, 0, none⟩)), (10, .pointer dp), (82, v')] 190 (G2 g v') a w | _ => ∃ g v', SG [(0, .slice (some ⟨ga, oa, none⟩) L pc), (3, .pointer (some ⟨bx, 0, none⟩)), (5, v5), (7, v7), (8, .int .i64 i), (9, .pointer (some ⟨hb, 0, none⟩)), (10, .pointer dp), (6, v')] 190 (G2 g v') a w) (show SG _ _ G a w from h0) ⟨?_, ?_, ?_, ?_, ?_, ?_, ?_, ?_, ?_, trivial⟩ ?_
  · intro a w hI
    have hI : SG _ _ _ a w := hI
    have e6 := hI.g 6 rfl
    go_simp
    exact hI.put (d := 75) (by decide) (by simp) hI.wp
  · intro a w hI
    have hI : SG _ _ _ a w := hI
    have e0 := hI.g 0 rfl
    go_simp
    exact hI.put (d := 76) (by decide) (by simp) hI.wp
  · intro a w hI
    have hI : SG _ _ _ a w := hI
    have e8 := hI.g 8 rfl
    go_simp
    exact hI.put (d := 77) (by decide) (by simp) hI.wp
  · intro a w hI
    have hI : SG _ _ _ a w := hI
    have e76 := hI.g 76 rfl
    have e77 := hI.g 77 rfl
    have q1_3 : (0 : Int) ≤ i := by omega
    have q2_3 : (i : Int) < L := by omega
    go_simp
    exact hI.put (d := 78) (by decide) (by simp) hI.wp
  · intro a w hI
    have hI : SG _ _ _ a w := hI
    have e78 := hI.g 78 rfl
    go_simp
    exact hI.put (d := 79) (by decide) (by simp) hI.wp
  · intro a w hI
    have hI : SG _ _ _ a w := hI
    have e79 := hI.g 79 rfl
    have cc0 := k0 w hI.wp
    have cc1 := k1 w hI.wp
    have cc2 := k2 w hI.wp
    go_simp
    exact hI.put (d := 80) (by decide) (by simp) hI.wp
  · intro a w hI
    have hI : SG _ _ _ a w := hI
    have e80 := hI.g 80 rfl
    go_simp
    exact ⟨w.heap.size, hI.put (d := 81) (by decide) (by simp) (hst6 w hI.wp)⟩
  · rintro a w ⟨g, hI⟩
    have e75 := hI.g 75 rfl
    have e81 := hI.g 81 rfl
    rw [if_pos (by simp [Region.wanted])]
    obtain ⟨i0, hi, hz0, hz1, hz2⟩ := info_parts info33
    refine operIn_append (.tmp 75) (.tmp 81) 53 rfl B0 33 i0 (.agg #[.int .i64 0, .int .i64 0, .int .i64 0]) 3 24 Try.underlying53 hi hz0 hz1 hz2 rfl (by decide) (v6) c xs (by rw [eval_tmp, e75]) (hown7 g w hI.wp) ⟨g, 0, none⟩ 1 1 [.int .i64 p.1, .int .i64 p.2.1, .int .i64 p.2.2] (by rw [eval_tmp, e81]) rfl (fun j u hj => by rw [add_none, Nat.zero_add]; exact hnew7 g w hI.wp j u hj) (by simp [Value.oneCell']) (by unfold maxLen; omega) (by omega) (hbs7 g w hI.wp) ?_
    intro V2 w1 h1 h2 h3
    exact ⟨g, V2, hI.put (d := 82) (by decide) (by simp) (hap7 g w w1 V2 hI.wp h1 h2)⟩
  · rintro a w ⟨g, v', hI⟩
    have e82 := hI.g 82 rfl
    go_simp
    exact ⟨g, v', hI.put (d := 6) (by decide) (by simp) hI.wp⟩
  · rintro a w ⟨g, v', hI⟩
    exact hQ g v' a w (hI.sub (by intro p hp; simp only [List.mem_cons, List.not_mem_nil, or_false] at hp ⊢; rcases hp with h | h | h | h | h | h | h | h <;> simp [h]))
set_option maxRecDepth 100000 in
set_option maxHeartbeats 8000000 in
theorem tt20 (n : Nat) {G : World → Prop} (ga oa L pc : Nat) (bx : Nat) (v5 v6 v7 : Value) (i : Nat) (hb : Nat) (dp : Option Addr) (B0 c : Nat) (hc : c ≤ 12) (xs : List Value)  {G1 : Nat → World → Prop} {G2 : Nat → Value → World → Prop} (hst2 : ∀ (w : World), G w → G1  w.heap.size (w.alloc (.cells #[.pointer dp] 34))) (hown3 : ∀ (g : Nat) (w : World), (G1 g) w → w.ownsRow B0 34 1 v7 c xs) (hbs3 : ∀ (g : Nat) (w : World), (G1 g) w → B0 ≤ w.heap.size) (hnew3 : ∀ (g : Nat) (w : World), (G1 g) w → ∀ j u, ([.pointer dp] : List Value)[j]? = some u → w.cell? ⟨g, j, none⟩ = some u) (hap3 : ∀ (g : Nat) (w w' : World) (v' : Value), (G1 g) w → w'.ownsRow B0 34 1 v' (c + 1) (xs ++ [.pointer dp]) → w.grownBy w' (v7).ownBlock → G2 g v' w') (Q : Exit → Act → World → Prop) (a : Act) (w : World) (h0 : SG (sg ga oa L pc bx v5 v6 v7 i ++ [(9, .pointer (some ⟨hb, 0, none⟩)), (10, .pointer dp)]) 190 G a w)
    (hQ : ∀ (g : Nat) (v' : Value) a w, SG [(0, .slice (some ⟨ga, oa, none⟩) L pc), (3, .pointer (some ⟨bx, 0, none⟩)), (5, v5), (6, v6), (7, v'), (8, .int .i64 i), (9, .pointer (some ⟨hb, 0, none⟩)), (10, .pointer dp)] 190 (G2 g v') a w → Q .normal a w) : (regOf 20 C5).wpIn Fence.wide n Try.prog Q a w := by
  simp only [regOf, C5, Try.f5, Option.getD, Nat.reduceBEq, Bool.false_eq_true, if_true, if_false]
  refine region_sq (fun k_ a w => match k_ with | 0 => SG (sg ga oa L pc bx v5 v6 v7 i ++ [(9, .pointer (some ⟨hb, 0, none⟩)), (10, .pointer dp)]) 190 G a w | 1 => SG [(0, .slice (some ⟨ga, oa, none⟩) L pc), (3, .pointer (some ⟨bx, 0, none⟩)), (5, v5), (6, v6), (8, .int .i64 i), (9, .pointer (some ⟨hb, 0, none⟩)), (10, .pointer dp), (83, v7)] 190 G a w | 2 => SG [(0, .slice (some ⟨ga, oa, none⟩) L pc), (3, .pointer (some ⟨bx, 0, none⟩)), (5, v5), (6, v6), (8, .int .i64 i), (9, .pointer (some ⟨hb, 0, none⟩)), (10, .pointer dp), (83, v7), (84, .pointer dp)] 190 G a w | 3 => ∃ g, SG [(0, .slice (some ⟨ga, oa, none⟩) L pc), (3, .pointer (some ⟨bx, 0, none⟩)), (5, v5), (6, v6), (8, .int .i64 i), (9, .pointer (some ⟨hb, 0, none⟩)), (10, .pointer dp), (83, v7), (85, .slice (some ⟨g, 0, none⟩) 1 1)] 190 (G1 g) a w | 4 => ∃ g v', SG [(0, .slice (some ⟨ga, oa, none⟩) L pc), (3, .pointer (some ⟨bx, 0, none⟩)), (5, v5), (6, v6), (8, .int .i64 i), (9, .pointer (some ⟨hb, 0, none⟩)), (10, .pointer dp), (86, v')] 190 (G2 g v') a w | _ => ∃ g v', SG [(0, .slice (some ⟨ga, oa, none⟩) L pc), (3, .pointer (some ⟨bx, 0, none⟩)), (5, v5), (6, v6), (8, .int .i64 i), (9, .pointer (some ⟨hb, 0, none⟩)), (10, .pointer dp), (7, v')] 190 (G2 g v') a w) (show SG _ _ G a w from h0) ⟨?_, ?_, ?_, ?_, ?_, trivial⟩ ?_
  · intro a w hI
    have hI : SG _ _ _ a w := hI
    have e7 := hI.g 7 rfl
    go_simp
    exact hI.put (d := 83) (by decide) (by simp) hI.wp
  · intro a w hI
    have hI : SG _ _ _ a w := hI
    have e10 := hI.g 10 rfl
    go_simp
    exact hI.put (d := 84) (by decide) (by simp) hI.wp
  · intro a w hI
    have hI : SG _ _ _ a w := hI
    have e84 := hI.g 84 rfl
    go_simp
    exact ⟨w.heap.size, hI.put (d := 85) (by decide) (by simp) (hst2 w hI.wp)⟩
  · rintro a w ⟨g, hI⟩
    have e83 := hI.g 83 rfl
    have e85 := hI.g 85 rfl
    rw [if_pos (by simp [Region.wanted])]
    obtain ⟨i0, hi, hz0, hz1, hz2⟩ := info_parts info34
    refine operIn_append (.tmp 83) (.tmp 85) 54 rfl B0 34 i0 (.pointer none) 1 8 Try.underlying54 hi hz0 hz1 hz2 rfl (by decide) (v7) c xs (by rw [eval_tmp, e83]) (hown3 g w hI.wp) ⟨g, 0, none⟩ 1 1 [.pointer dp] (by rw [eval_tmp, e85]) rfl (fun j u hj => by rw [add_none, Nat.zero_add]; exact hnew3 g w hI.wp j u hj) (by simp [Value.oneCell']) (by unfold maxLen; omega) (by omega) (hbs3 g w hI.wp) ?_
    intro V2 w1 h1 h2 h3
    exact ⟨g, V2, hI.put (d := 86) (by decide) (by simp) (hap3 g w w1 V2 hI.wp h1 h2)⟩
  · rintro a w ⟨g, v', hI⟩
    have e86 := hI.g 86 rfl
    go_simp
    exact ⟨g, v', hI.put (d := 7) (by decide) (by simp) hI.wp⟩
  · rintro a w ⟨g, v', hI⟩
    exact hQ g v' a w (hI.sub (by intro p hp; simp only [List.mem_cons, List.not_mem_nil, or_false] at hp ⊢; rcases hp with h | h | h | h | h | h | h | h <;> simp [h]))
set_option maxRecDepth 100000 in
set_option maxHeartbeats 4000000 in
theorem tt21 (n : Nat) {G : World → Prop} (hS : Stable G) (ga oa L pc : Nat) (bx : Nat) (v5 v6 v7 : Value) (i : Nat) (hb : Nat) (dp : Option Addr) (cp : Option Addr) (p : Sp3) (k er : Int)  (m3 : ∀ w, G w → w.cell? ⟨hb, 3, none⟩ = some (.pointer cp)) (m0 : ∀ w, G w → w.cell? ⟨hb, 0, none⟩ = some (.int .i64 (p.1))) (m1 : ∀ w, G w → w.cell? ⟨hb, 1, none⟩ = some (.int .i64 (p.2.1))) (m2 : ∀ w, G w → w.cell? ⟨hb, 2, none⟩ = some (.int .i64 (p.2.2))) (hc : ∀ m w, G w → CallsIn Fence.wide m Try.prog 13 #[.pointer cp, .agg #[.int .i64 (p.1), .int .i64 (p.2.1), .int .i64 (p.2.2)]] w fun e w' => e = .returned (.tuple #[.int .i64 k, .int .i64 er]) ∧ Below w.heap.size w w') (Q : Exit → Act → World → Prop) (a : Act) (w : World) (h0 : SG (sg ga oa L pc bx v5 v6 v7 i ++ [(9, .pointer (some ⟨hb, 0, none⟩)), (10, .pointer dp)]) 190 G a w)
    (hQ : ∀ a w, SG (sg ga oa L pc bx v5 v6 v7 i ++ [(10, .pointer dp), (11, .int .i64 k), (12, .int .i64 er)]) 190 G a w → Q .normal a w) : (regOf 21 C5).wpIn Fence.wide n Try.prog Q a w := by
  simp only [regOf, C5, Try.f5, Option.getD, Nat.reduceBEq, Bool.false_eq_true, if_true, if_false]
  refine region_sq (fun k_ a w => match k_ with | 0 => SG (sg ga oa L pc bx v5 v6 v7 i ++ [(9, .pointer (some ⟨hb, 0, none⟩)), (10, .pointer dp)]) 190 G a w | 1 => SG (sg ga oa L pc bx v5 v6 v7 i ++ [(9, .pointer (some ⟨hb, 0, none⟩)), (10, .pointer dp), (88, .pointer (some ⟨hb, 3, none⟩))]) 190 G a w | 2 => SG (sg ga oa L pc bx v5 v6 v7 i ++ [(9, .pointer (some ⟨hb, 0, none⟩)), (10, .pointer dp), (89, .pointer cp)]) 190 G a w | 3 => SG (sg ga oa L pc bx v5 v6 v7 i ++ [(10, .pointer dp), (89, .pointer cp), (90, .pointer (some ⟨hb, 0, none⟩))]) 190 G a w | 4 => SG (sg ga oa L pc bx v5 v6 v7 i ++ [(10, .pointer dp), (89, .pointer cp), (91, .agg #[.int .i64 (p.1), .int .i64 (p.2.1), .int .i64 (p.2.2)])]) 190 G a w | 5 => SG (sg ga oa L pc bx v5 v6 v7 i ++ [(10, .pointer dp), (92, .tuple #[.int .i64 k, .int .i64 er])]) 190 G a w | 6 => SG (sg ga oa L pc bx v5 v6 v7 i ++ [(10, .pointer dp), (87, .tuple #[.int .i64 k, .int .i64 er])]) 190 G a w | 7 => SG (sg ga oa L pc bx v5 v6 v7 i ++ [(10, .pointer dp), (87, .tuple #[.int .i64 k, .int .i64 er]), (93, .int .i64 k)]) 190 G a w | 8 => SG (sg ga oa L pc bx v5 v6 v7 i ++ [(10, .pointer dp), (93, .int .i64 k), (94, .int .i64 er)]) 190 G a w | 9 => SG (sg ga oa L pc bx v5 v6 v7 i ++ [(10, .pointer dp), (94, .int .i64 er), (11, .int .i64 k)]) 190 G a w | _ => SG (sg ga oa L pc bx v5 v6 v7 i ++ [(10, .pointer dp), (11, .int .i64 k), (12, .int .i64 er)]) 190 G a w) (show SG _ _ G a w from h0) ⟨?_, ?_, ?_, ?_, ?_, ?_, ?_, ?_, ?_, ?_, trivial⟩ ?_
  · intro a w hI
    have hI : SG _ _ G a w := hI
    have e9 := hI.g 9 rfl
    go_simp
    exact hI.put (d := 88) (by decide) (by simp) hI.wp
  · intro a w hI
    have hI : SG _ _ G a w := hI
    have e88 := hI.g 88 rfl
    have cc0 := m3 w hI.wp
    go_simp
    exact hI.put (d := 89) (by decide) (by simp) hI.wp
  · intro a w hI
    have hI : SG _ _ G a w := hI
    have e9 := hI.g 9 rfl
    go_simp
    exact hI.put (d := 90) (by decide) (by simp) hI.wp
  · intro a w hI
    have hI : SG _ _ G a w := hI
    have e90 := hI.g 90 rfl
    have cc0 := m0 w hI.wp
    have cc1 := m1 w hI.wp
    have cc2 := m2 w hI.wp
    go_simp
    exact hI.put (d := 91) (by decide) (by simp) hI.wp
  · intro a w hI
    have hI : SG _ _ G a w := hI
    have e89 := hI.g 89 rfl
    have e91 := hI.g 91 rfl
    go_simp
    refine ⟨trivial, fun h => (by cases h), (hc (n - 1) w hI.wp).mono ?_⟩
    rintro e w' ⟨rfl, hb2⟩
    exact hI.put (d := 92) (by decide) (by simp) (hS _ _ hI.wp hb2)
  · intro a w hI
    have hI : SG _ _ G a w := hI
    have e92 := hI.g 92 rfl
    go_simp
    exact hI.put (d := 87) (by decide) (by simp) hI.wp
  · intro a w hI
    have hI : SG _ _ G a w := hI
    have e87 := hI.g 87 rfl
    go_simp
    exact hI.put (d := 93) (by decide) (by simp) hI.wp
  · intro a w hI
    have hI : SG _ _ G a w := hI
    have e87 := hI.g 87 rfl
    go_simp
    exact hI.put (d := 94) (by decide) (by simp) hI.wp
  · intro a w hI
    have hI : SG _ _ G a w := hI
    have e93 := hI.g 93 rfl
    go_simp
    exact hI.put (d := 11) (by decide) (by simp) hI.wp
  · intro a w hI
    have hI : SG _ _ G a w := hI
    have e94 := hI.g 94 rfl
    go_simp
    exact hI.put (d := 12) (by decide) (by simp) hI.wp
  · intro a w hI
    have hI : SG _ _ G a w := hI
    exact hQ a w hI
set_option maxRecDepth 100000 in
set_option maxHeartbeats 4000000 in
theorem tt22 (n : Nat) {G : World → Prop} (hS : Stable G) (ga oa L pc : Nat) (bx : Nat) (v5 v6 v7 : Value) (i : Nat) (dp : Option Addr) (k er : Int) (p : Sp3) (hi : i < L)  (k0 : ∀ w, G w → w.cell? ⟨ga, oa + i * 5, none⟩ = some (.int .i64 (p.1))) (k1 : ∀ w, G w → w.cell? ⟨ga, oa + i * 5 + 1, none⟩ = some (.int .i64 (p.2.1))) (k2 : ∀ w, G w → w.cell? ⟨ga, oa + i * 5 + 2, none⟩ = some (.int .i64 (p.2.2))) (hc : ∀ m w, G w → CallsIn Fence.wide m Try.prog 18 #[.pointer dp, .agg #[.int .i64 (p.1), .int .i64 (p.2.1), .int .i64 (p.2.2)]] w fun e w' => e = .returned (.tuple #[.int .i64 k, .int .i64 er]) ∧ Below w.heap.size w w') (Q : Exit → Act → World → Prop) (a : Act) (w : World) (h0 : SG (sg ga oa L pc bx v5 v6 v7 i ++ [(10, .pointer dp), (11, .int .i64 k), (12, .int .i64 er)]) 190 G a w)
    (hQ : ∀ a w, SG (sg ga oa L pc bx v5 v6 v7 i ++ [(11, .int .i64 k), (12, .int .i64 er), (13, .int .i64 k), (14, .int .i64 er)]) 190 G a w → Q .normal a w) : (regOf 22 C5).wpIn Fence.wide n Try.prog Q a w := by
  simp only [regOf, C5, Try.f5, Option.getD, Nat.reduceBEq, Bool.false_eq_true, if_true, if_false]
  refine region_sq (fun k_ a w => match k_ with | 0 => SG (sg ga oa L pc bx v5 v6 v7 i ++ [(10, .pointer dp), (11, .int .i64 k), (12, .int .i64 er)]) 190 G a w | 1 => SG (sg ga oa L pc bx v5 v6 v7 i ++ [(11, .int .i64 k), (12, .int .i64 er), (96, .pointer dp)]) 190 G a w | 2 => SG (sg ga oa L pc bx v5 v6 v7 i ++ [(11, .int .i64 k), (12, .int .i64 er), (96, .pointer dp), (97, .slice (some ⟨ga, oa, none⟩) L pc)]) 190 G a w | 3 => SG (sg ga oa L pc bx v5 v6 v7 i ++ [(11, .int .i64 k), (12, .int .i64 er), (96, .pointer dp), (97, .slice (some ⟨ga, oa, none⟩) L pc), (98, .int .i64 i)]) 190 G a w | 4 => SG (sg ga oa L pc bx v5 v6 v7 i ++ [(11, .int .i64 k), (12, .int .i64 er), (96, .pointer dp), (99, .pointer (some ⟨ga, oa + i * 5, none⟩))]) 190 G a w | 5 => SG (sg ga oa L pc bx v5 v6 v7 i ++ [(11, .int .i64 k), (12, .int .i64 er), (96, .pointer dp), (100, .pointer (some ⟨ga, oa + i * 5, none⟩))]) 190 G a w | 6 => SG (sg ga oa L pc bx v5 v6 v7 i ++ [(11, .int .i64 k), (12, .int .i64 er), (96, .pointer dp), (101, .agg #[.int .i64 (p.1), .int .i64 (p.2.1), .int .i64 (p.2.2)])]) 190 G a w | 7 => SG (sg ga oa L pc bx v5 v6 v7 i ++ [(11, .int .i64 k), (12, .int .i64 er), (102, .tuple #[.int .i64 k, .int .i64 er])]) 190 G a w | 8 => SG (sg ga oa L pc bx v5 v6 v7 i ++ [(11, .int .i64 k), (12, .int .i64 er), (95, .tuple #[.int .i64 k, .int .i64 er])]) 190 G a w | 9 => SG (sg ga oa L pc bx v5 v6 v7 i ++ [(11, .int .i64 k), (12, .int .i64 er), (95, .tuple #[.int .i64 k, .int .i64 er]), (103, .int .i64 k)]) 190 G a w | 10 => SG (sg ga oa L pc bx v5 v6 v7 i ++ [(11, .int .i64 k), (12, .int .i64 er), (103, .int .i64 k), (104, .int .i64 er)]) 190 G a w | 11 => SG (sg ga oa L pc bx v5 v6 v7 i ++ [(11, .int .i64 k), (12, .int .i64 er), (104, .int .i64 er), (13, .int .i64 k)]) 190 G a w | _ => SG (sg ga oa L pc bx v5 v6 v7 i ++ [(11, .int .i64 k), (12, .int .i64 er), (13, .int .i64 k), (14, .int .i64 er)]) 190 G a w) (show SG _ _ G a w from h0) ⟨?_, ?_, ?_, ?_, ?_, ?_, ?_, ?_, ?_, ?_, ?_, ?_, trivial⟩ ?_
  · intro a w hI
    have hI : SG _ _ G a w := hI
    have e10 := hI.g 10 rfl
    go_simp
    exact hI.put (d := 96) (by decide) (by simp) hI.wp
  · intro a w hI
    have hI : SG _ _ G a w := hI
    have e0 := hI.g 0 rfl
    go_simp
    exact hI.put (d := 97) (by decide) (by simp) hI.wp
  · intro a w hI
    have hI : SG _ _ G a w := hI
    have e8 := hI.g 8 rfl
    go_simp
    exact hI.put (d := 98) (by decide) (by simp) hI.wp
  · intro a w hI
    have hI : SG _ _ G a w := hI
    have e97 := hI.g 97 rfl
    have e98 := hI.g 98 rfl
    have q1_3 : (0 : Int) ≤ i := by omega
    have q2_3 : (i : Int) < L := by omega
    go_simp
    exact hI.put (d := 99) (by decide) (by simp) hI.wp
  · intro a w hI
    have hI : SG _ _ G a w := hI
    have e99 := hI.g 99 rfl
    go_simp
    exact hI.put (d := 100) (by decide) (by simp) hI.wp
  · intro a w hI
    have hI : SG _ _ G a w := hI
    have e100 := hI.g 100 rfl
    have cc0 := k0 w hI.wp
    have cc1 := k1 w hI.wp
    have cc2 := k2 w hI.wp
    go_simp
    exact hI.put (d := 101) (by decide) (by simp) hI.wp
  · intro a w hI
    have hI : SG _ _ G a w := hI
    have e96 := hI.g 96 rfl
    have e101 := hI.g 101 rfl
    go_simp
    refine ⟨trivial, fun h => (by cases h), (hc (n - 1) w hI.wp).mono ?_⟩
    rintro e w' ⟨rfl, hb2⟩
    exact hI.put (d := 102) (by decide) (by simp) (hS _ _ hI.wp hb2)
  · intro a w hI
    have hI : SG _ _ G a w := hI
    have e102 := hI.g 102 rfl
    go_simp
    exact hI.put (d := 95) (by decide) (by simp) hI.wp
  · intro a w hI
    have hI : SG _ _ G a w := hI
    have e95 := hI.g 95 rfl
    go_simp
    exact hI.put (d := 103) (by decide) (by simp) hI.wp
  · intro a w hI
    have hI : SG _ _ G a w := hI
    have e95 := hI.g 95 rfl
    go_simp
    exact hI.put (d := 104) (by decide) (by simp) hI.wp
  · intro a w hI
    have hI : SG _ _ G a w := hI
    have e103 := hI.g 103 rfl
    go_simp
    exact hI.put (d := 13) (by decide) (by simp) hI.wp
  · intro a w hI
    have hI : SG _ _ G a w := hI
    have e104 := hI.g 104 rfl
    go_simp
    exact hI.put (d := 14) (by decide) (by simp) hI.wp
  · intro a w hI
    have hI : SG _ _ G a w := hI
    exact hQ a w hI
set_option maxRecDepth 100000 in
set_option maxHeartbeats 4000000 in
theorem tt23 (n : Nat) (W : World) (ga oa L pc : Nat) (bx : Nat) (v5 v6 v7 : Value) (i : Nat) (k er : Int)  (Q : Exit → Act → World → Prop) (a : Act) (h0 : SR (sg ga oa L pc bx v5 v6 v7 i ++ [(11, .int .i64 k), (12, .int .i64 er), (13, .int .i64 k), (14, .int .i64 er)]) 190 [] W a W)
    (hQ : ∀ a, SR (sg ga oa L pc bx v5 v6 v7 i ++ [(112, .bool false)]) 190 [] (W) a (W) → Q .normal a (W)) : (regOf 23 C5).wpIn Fence.wide n Try.prog Q a W := by
  simp only [regOf, C5, Try.f5, Option.getD, Nat.reduceBEq, Bool.false_eq_true, if_true, if_false]
  refine region_sq (fun k_ a w => match k_ with | 0 => SR (sg ga oa L pc bx v5 v6 v7 i ++ [(11, .int .i64 k), (12, .int .i64 er), (13, .int .i64 k), (14, .int .i64 er)]) 190 [] (W) a w | 1 => SR (sg ga oa L pc bx v5 v6 v7 i ++ [(12, .int .i64 er), (13, .int .i64 k), (14, .int .i64 er), (105, .int .i64 k)]) 190 [] (W) a w | 2 => SR (sg ga oa L pc bx v5 v6 v7 i ++ [(12, .int .i64 er), (14, .int .i64 er), (105, .int .i64 k), (106, .int .i64 k)]) 190 [] (W) a w | 3 => SR (sg ga oa L pc bx v5 v6 v7 i ++ [(12, .int .i64 er), (14, .int .i64 er), (107, .bool false)]) 190 [] (W) a w | 4 => SR (sg ga oa L pc bx v5 v6 v7 i ++ [(12, .int .i64 er), (14, .int .i64 er), (108, .bool false)]) 190 [] (W) a w | 5 => SR (sg ga oa L pc bx v5 v6 v7 i ++ [(14, .int .i64 er), (108, .bool false), (109, .int .i64 er)]) 190 [] (W) a w | 6 => SR (sg ga oa L pc bx v5 v6 v7 i ++ [(108, .bool false), (109, .int .i64 er), (110, .int .i64 er)]) 190 [] (W) a w | 7 => SR (sg ga oa L pc bx v5 v6 v7 i ++ [(108, .bool false), (111, .bool false)]) 190 [] (W) a w | _ => SR (sg ga oa L pc bx v5 v6 v7 i ++ [(112, .bool false)]) 190 [] (W) a w) (show SR _ _ _ _ a W from h0) ⟨?_, ?_, ?_, ?_, ?_, ?_, ?_, ?_, trivial⟩ ?_
  · intro a w hI
    have hI : SR _ _ _ _ a w := hI
    have e11 := hI.g 11 rfl
    have hw : w = W := hI.wp
    subst hw
    go_simp
    exact hI.put (d := 105) (by decide) (by simp)
  · intro a w hI
    have hI : SR _ _ _ _ a w := hI
    have e13 := hI.g 13 rfl
    have hw : w = W := hI.wp
    subst hw
    go_simp
    exact hI.put (d := 106) (by decide) (by simp)
  · intro a w hI
    have hI : SR _ _ _ _ a w := hI
    have e105 := hI.g 105 rfl
    have e106 := hI.g 106 rfl
    have hw : w = W := hI.wp
    subst hw
    go_simp
    exact hI.put (d := 107) (by decide) (by simp)
  · intro a w hI
    have hI : SR _ _ _ _ a w := hI
    have e107 := hI.g 107 rfl
    have hw : w = W := hI.wp
    subst hw
    go_simp
    exact hI.put (d := 108) (by decide) (by simp)
  · intro a w hI
    have hI : SR _ _ _ _ a w := hI
    have e12 := hI.g 12 rfl
    have e108 := hI.g 108 rfl
    have f108 := slot_bool e108
    have hw : w = W := hI.wp
    subst hw
    go_simp
    exact hI.put (d := 109) (by decide) (by simp)
  · intro a w hI
    have hI : SR _ _ _ _ a w := hI
    have e14 := hI.g 14 rfl
    have e108 := hI.g 108 rfl
    have f108 := slot_bool e108
    have hw : w = W := hI.wp
    subst hw
    go_simp
    exact hI.put (d := 110) (by decide) (by simp)
  · intro a w hI
    have hI : SR _ _ _ _ a w := hI
    have e109 := hI.g 109 rfl
    have e110 := hI.g 110 rfl
    have e108 := hI.g 108 rfl
    have f108 := slot_bool e108
    have hw : w = W := hI.wp
    subst hw
    go_simp
    exact hI.put (d := 111) (by decide) (by simp)
  · intro a w hI
    have hI : SR _ _ _ _ a w := hI
    have e108 := hI.g 108 rfl
    have e111 := hI.g 111 rfl
    have hw : w = W := hI.wp
    subst hw
    go_simp
    exact hI.put (d := 112) (by decide) (by simp)
  · intro a w hI
    have hI : SR _ _ _ _ a w := hI
    have hw : w = W := hI.wp
    subst hw
    exact hQ a hI
end Go.Proofs.Ytigblagodlfedaa
