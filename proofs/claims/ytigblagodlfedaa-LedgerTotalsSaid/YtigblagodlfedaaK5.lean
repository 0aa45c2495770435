/- Glow: the walk of a law. -/
import Derived.RangeFuncNested
import Derived.RangeFuncBound
import Derived.RangeFuncCalls
import Derived.RangeFuncLeaves
import Derived.Shelf.Abstract
import Derived.Shelf.RegionOpen
import Derived.WalkKit
import Derived.OwnWalkIn
import Derived.TacticsInMore
import Derived.LoopNIn
import Derived.LoopIn
import Derived.Lib.Hide
import Derived.IntWalk
import Derived.Maps.AppendAt
import Derived.Test.YtigblagodlfedaaHand
import Derived.DeepKeys
import Derived.Laws.CopyOwn
import Derived.Test.YtigblagodlfedaaK4
set_option linter.unusedVariables false
set_option linter.unusedSimpArgs false
namespace Go.Proofs.Ytigblagodlfedaa
open Go.RowKit Go.Shelf
attribute [local go_sem] Oper.semAt_some

noncomputable def C21 : Code := Try.f21.body.getD .skip
set_option maxRecDepth 100000 in
set_option maxHeartbeats 4000000 in
theorem ho0 (n : Nat) (W : World) (l0 l1 l2 l3 : Int) (gp : Option Addr) (L cp : Nat)  (Q : Exit → Act → World → Prop) (a : Act) (h0 : SR [(0, .agg #[.int .i64 l0, .int .i64 l1, .int .i64 l2, .int .i64 l3]), (1, .slice gp L cp)] 29 [] W a W)
    (hQ : ∀ a, SR [(1, .slice gp L cp), (2, .pointer (some ⟨W.heap.size, 0, none⟩))] 29 [] (W.alloc (.cells #[.int .i64 l0, .int .i64 l1, .int .i64 l2, .int .i64 l3] 23)) a (W.alloc (.cells #[.int .i64 l0, .int .i64 l1, .int .i64 l2, .int .i64 l3] 23)) → Q .normal a (W.alloc (.cells #[.int .i64 l0, .int .i64 l1, .int .i64 l2, .int .i64 l3] 23))) : (regOf 0 C21).wpIn Fence.wide n Try.prog Q a W := by
  simp only [regOf, C21, Try.f21, Option.getD, Nat.reduceBEq, Bool.false_eq_true, if_true, if_false]
  refine region_sq (fun k_ a w => match k_ with | 0 => SR [(0, .agg #[.int .i64 l0, .int .i64 l1, .int .i64 l2, .int .i64 l3]), (1, .slice gp L cp)] 29 [] (W) a w | 1 => SR [(1, .slice gp L cp), (2, .pointer (some ⟨W.heap.size, 0, none⟩))] 29 [] (W.alloc (.cells #[.int .i64 l0, .int .i64 l1, .int .i64 l2, .int .i64 l3] 23)) a w | _ => SR [(1, .slice gp L cp), (2, .pointer (some ⟨W.heap.size, 0, none⟩))] 29 [] (W.alloc (.cells #[.int .i64 l0, .int .i64 l1, .int .i64 l2, .int .i64 l3] 23)) a w) (show SR _ _ _ _ a W from h0) ⟨?_, ?_, trivial⟩ ?_
  · intro a w hI
    have hI : SR _ _ _ _ a w := hI
    have e0 := hI.g 0 rfl
    have hw : w = W := hI.wp
    subst hw
    go_simp
    exact hI.put (d := 2) (by decide) (by simp)
  · intro a w hI
    have hI : SR _ _ _ _ a w := hI
    obtain rfl := hI.wp
    go_simp
    exact hI.put (d := 4) (by decide) (by simp)
  · intro a w hI
    have hI : SR _ _ _ _ a w := hI
    obtain rfl := hI.wp
    exact hQ a hI
set_option maxRecDepth 100000 in
set_option maxHeartbeats 4000000 in
theorem ho1 (n : Nat) {G : World → Prop} (hS : Stable G) (bx : Nat) (l0 l1 l2 l3 : Int) (gp : Option Addr) (L cp : Nat) (t : Int) (ok : Bool) (k0 : ∀ w, G w → w.cell? ⟨bx, 0, none⟩ = some (.int .i64 l0)) (k1 : ∀ w, G w → w.cell? ⟨bx, 1, none⟩ = some (.int .i64 l1)) (k2 : ∀ w, G w → w.cell? ⟨bx, 2, none⟩ = some (.int .i64 l2)) (k3 : ∀ w, G w → w.cell? ⟨bx, 3, none⟩ = some (.int .i64 l3)) (hc : ∀ m w, G w → CallsIn Fence.wide m Try.prog 7 #[.agg #[.int .i64 l0, .int .i64 l1, .int .i64 l2, .int .i64 l3]] w fun e w' => e = .returned (.tuple #[.int .i64 t, .bool ok]) ∧ Below w.heap.size w w') (Q : Exit → Act → World → Prop) (a : Act) (w : World) (h0 : SG [(1, .slice gp L cp), (2, .pointer (some ⟨bx, 0, none⟩))] 29 G a w)
    (hQ : ∀ a w, SG [(1, .slice gp L cp), (5, .int .i64 t), (6, .bool ok)] 29 G a w → Q .normal a w) : (regOf 1 C21).wpIn Fence.wide n Try.prog Q a w := by
  simp only [regOf, C21, Try.f21, Option.getD, Nat.reduceBEq, Bool.false_eq_true, if_true, if_false]
  refine region_sq (fun k_ a w => match k_ with | 0 => SG [(1, .slice gp L cp), (2, .pointer (some ⟨bx, 0, none⟩))] 29 G a w | 1 => SG [(1, .slice gp L cp), (10, .agg #[.int .i64 l0, .int .i64 l1, .int .i64 l2, .int .i64 l3])] 29 G a w | 2 => SG [(1, .slice gp L cp), (11, .tuple #[.int .i64 t, .bool ok])] 29 G a w | 3 => SG [(1, .slice gp L cp), (9, .tuple #[.int .i64 t, .bool ok])] 29 G a w | 4 => SG [(1, .slice gp L cp), (9, .tuple #[.int .i64 t, .bool ok]), (12, .int .i64 t)] 29 G a w | 5 => SG [(1, .slice gp L cp), (12, .int .i64 t), (13, .bool ok)] 29 G a w | 6 => SG [(1, .slice gp L cp), (13, .bool ok), (5, .int .i64 t)] 29 G a w | _ => SG [(1, .slice gp L cp), (5, .int .i64 t), (6, .bool ok)] 29 G a w) (show SG _ _ G a w from h0) ⟨?_, ?_, ?_, ?_, ?_, ?_, ?_, trivial⟩ ?_
  · intro a w hI
    have hI : SG _ _ G a w := hI
    have e2 := hI.g 2 rfl
    have cc0 := k0 w hI.wp
    have cc1 := k1 w hI.wp
    have cc2 := k2 w hI.wp
    have cc3 := k3 w hI.wp
    go_simp
    exact hI.put (d := 10) (by decide) (by simp) hI.wp
  · intro a w hI
    have hI : SG _ _ G a w := hI
    have e10 := hI.g 10 rfl
    go_simp
    refine ⟨trivial, fun h => (by cases h), (hc (n - 1) w hI.wp).mono ?_⟩
    rintro e w' ⟨rfl, hb2⟩
    exact hI.put (d := 11) (by decide) (by simp) (hS _ _ hI.wp hb2)
  · intro a w hI
    have hI : SG _ _ G a w := hI
    have e11 := hI.g 11 rfl
    go_simp
    exact hI.put (d := 9) (by decide) (by simp) hI.wp
  · intro a w hI
    have hI : SG _ _ G a w := hI
    have e9 := hI.g 9 rfl
    go_simp
    exact hI.put (d := 12) (by decide) (by simp) hI.wp
  · intro a w hI
    have hI : SG _ _ G a w := hI
    have e9 := hI.g 9 rfl
    go_simp
    exact hI.put (d := 13) (by decide) (by simp) hI.wp
  · intro a w hI
    have hI : SG _ _ G a w := hI
    have e12 := hI.g 12 rfl
    go_simp
    exact hI.put (d := 5) (by decide) (by simp) hI.wp
  · intro a w hI
    have hI : SG _ _ G a w := hI
    have e13 := hI.g 13 rfl
    go_simp
    exact hI.put (d := 6) (by decide) (by simp) hI.wp
  · intro a w hI
    have hI : SG _ _ G a w := hI
    exact hQ a w hI
set_option maxRecDepth 100000 in
set_option maxHeartbeats 4000000 in
theorem ho2 (n : Nat) {G : World → Prop} (hS : Stable G) (gp : Option Addr) (L cp : Nat) (t s er : Int) (ok : Bool)  (hc : ∀ m w, G w → CallsIn Fence.wide m Try.prog 19 #[.slice gp L cp] w fun e w' => e = .returned (.tuple #[.int .i64 s, .int .i64 er]) ∧ Below w.heap.size w w') (Q : Exit → Act → World → Prop) (a : Act) (w : World) (h0 : SG [(1, .slice gp L cp), (5, .int .i64 t), (6, .bool ok)] 29 G a w)
    (hQ : ∀ a w, SG [(5, .int .i64 t), (6, .bool ok), (7, .int .i64 s), (8, .int .i64 er)] 29 G a w → Q .normal a w) : (regOf 2 C21).wpIn Fence.wide n Try.prog Q a w := by
  simp only [regOf, C21, Try.f21, Option.getD, Nat.reduceBEq, Bool.false_eq_true, if_true, if_false]
  refine region_sq (fun k_ a w => match k_ with | 0 => SG [(1, .slice gp L cp), (5, .int .i64 t), (6, .bool ok)] 29 G a w | 1 => SG [(5, .int .i64 t), (6, .bool ok), (15, .slice gp L cp)] 29 G a w | 2 => SG [(5, .int .i64 t), (6, .bool ok), (16, .tuple #[.int .i64 s, .int .i64 er])] 29 G a w | 3 => SG [(5, .int .i64 t), (6, .bool ok), (14, .tuple #[.int .i64 s, .int .i64 er])] 29 G a w | 4 => SG [(5, .int .i64 t), (6, .bool ok), (14, .tuple #[.int .i64 s, .int .i64 er]), (17, .int .i64 s)] 29 G a w | 5 => SG [(5, .int .i64 t), (6, .bool ok), (17, .int .i64 s), (18, .int .i64 er)] 29 G a w | 6 => SG [(5, .int .i64 t), (6, .bool ok), (18, .int .i64 er), (7, .int .i64 s)] 29 G a w | _ => SG [(5, .int .i64 t), (6, .bool ok), (7, .int .i64 s), (8, .int .i64 er)] 29 G a w) (show SG _ _ G a w from h0) ⟨?_, ?_, ?_, ?_, ?_, ?_, ?_, trivial⟩ ?_
  · intro a w hI
    have hI : SG _ _ G a w := hI
    have e1 := hI.g 1 rfl
    go_simp
    exact hI.put (d := 15) (by decide) (by simp) hI.wp
  · intro a w hI
    have hI : SG _ _ G a w := hI
    have e15 := hI.g 15 rfl
    go_simp
    refine ⟨trivial, fun h => (by cases h), (hc (n - 1) w hI.wp).mono ?_⟩
    rintro e w' ⟨rfl, hb2⟩
    exact hI.put (d := 16) (by decide) (by simp) (hS _ _ hI.wp hb2)
  · intro a w hI
    have hI : SG _ _ G a w := hI
    have e16 := hI.g 16 rfl
    go_simp
    exact hI.put (d := 14) (by decide) (by simp) hI.wp
  · intro a w hI
    have hI : SG _ _ G a w := hI
    have e14 := hI.g 14 rfl
    go_simp
    exact hI.put (d := 17) (by decide) (by simp) hI.wp
  · intro a w hI
    have hI : SG _ _ G a w := hI
    have e14 := hI.g 14 rfl
    go_simp
    exact hI.put (d := 18) (by decide) (by simp) hI.wp
  · intro a w hI
    have hI : SG _ _ G a w := hI
    have e17 := hI.g 17 rfl
    go_simp
    exact hI.put (d := 7) (by decide) (by simp) hI.wp
  · intro a w hI
    have hI : SG _ _ G a w := hI
    have e18 := hI.g 18 rfl
    go_simp
    exact hI.put (d := 8) (by decide) (by simp) hI.wp
  · intro a w hI
    have hI : SG _ _ G a w := hI
    exact hQ a w hI
set_option maxRecDepth 100000 in
set_option maxHeartbeats 4000000 in
theorem ho3a (n : Nat) (W : World) (t s er : Int) (Q : Exit → Act → World → Prop) (a : Act) (h0 : SR [(5, .int .i64 t), (6, .bool false), (7, .int .i64 s), (8, .int .i64 er)] 29 [] W a W)
    (hQ : ∀ a, SR [(4, .bool false)] 29 [] (W) a (W) → Q .normal a (W)) : (regOf 3 C21).wpIn Fence.wide n Try.prog Q a W := by
  simp only [regOf, C21, Try.f21, Option.getD, Nat.reduceBEq, Bool.false_eq_true, if_true, if_false]
  refine region_sq (fun k_ a w => match k_ with | 0 => SR [(6, .bool false)] 29 [] (W) a w | 1 => SR [(19, .bool false)] 29 [] (W) a w | 2 => SR [(20, .bool false)] 29 [] (W) a w | 3 => SR [(20, .bool false)] 29 [] (W) a w | 4 => SR [(20, .bool false)] 29 [] (W) a w | 5 => SR [(23, .bool false)] 29 [] (W) a w | 6 => SR [(24, .bool false)] 29 [] (W) a w | 7 => SR [(24, .bool false)] 29 [] (W) a w | 8 => SR [(24, .bool false)] 29 [] (W) a w | 9 => SR [(24, .bool false)] 29 [] (W) a w | 10 => SR [(28, .bool false)] 29 [] (W) a w | _ => SR [(4, .bool false)] 29 [] (W) a w) (show SR _ _ _ _ a W from h0.sub (by intro p hp; simp only [List.mem_cons, List.not_mem_nil, or_false] at hp ⊢; simp [hp])) ⟨?_, ?_, ?_, ?_, ?_, ?_, ?_, ?_, ?_, ?_, ?_, trivial⟩ ?_
  · intro a w hI
    have hI : SR _ _ _ _ a w := hI
    have e6 := hI.g 6 rfl
    have hw : w = W := hI.wp
    subst hw
    go_simp
    exact hI.put (d := 19) (by decide) (by simp)
  · intro a w hI
    have hI : SR _ _ _ _ a w := hI
    have e19 := hI.g 19 rfl
    have hw : w = W := hI.wp
    subst hw
    go_simp
    exact hI.put (d := 20) (by decide) (by simp)
  · intro a w hI
    have hI : SR _ _ _ _ a w := hI
    have e20 := hI.g 20 rfl
    have f20 := slot_bool e20
    have hw : w = W := hI.wp
    subst hw
    go_simp
    exact hI.put (d := 21) (by decide) (by simp)
  · intro a w hI
    have hI : SR _ _ _ _ a w := hI
    have e20 := hI.g 20 rfl
    have f20 := slot_bool e20
    have hw : w = W := hI.wp
    subst hw
    go_simp
    exact hI.put (d := 22) (by decide) (by simp)
  · intro a w hI
    have hI : SR _ _ _ _ a w := hI
    have e20 := hI.g 20 rfl
    have hw : w = W := hI.wp
    subst hw
    go_simp
    exact hI.put (d := 23) (by decide) (by simp)
  · intro a w hI
    have hI : SR _ _ _ _ a w := hI
    have e23 := hI.g 23 rfl
    have hw : w = W := hI.wp
    subst hw
    go_simp
    exact hI.put (d := 24) (by decide) (by simp)
  · intro a w hI
    have hI : SR _ _ _ _ a w := hI
    have e24 := hI.g 24 rfl
    have f24 := slot_bool e24
    have hw : w = W := hI.wp
    subst hw
    go_simp
    exact hI.put (d := 25) (by decide) (by simp)
  · intro a w hI
    have hI : SR _ _ _ _ a w := hI
    have e24 := hI.g 24 rfl
    have f24 := slot_bool e24
    have hw : w = W := hI.wp
    subst hw
    go_simp
    exact hI.put (d := 26) (by decide) (by simp)
  · intro a w hI
    have hI : SR _ _ _ _ a w := hI
    have e24 := hI.g 24 rfl
    have f24 := slot_bool e24
    have hw : w = W := hI.wp
    subst hw
    go_simp
    exact hI.put (d := 27) (by decide) (by simp)
  · intro a w hI
    have hI : SR _ _ _ _ a w := hI
    have e24 := hI.g 24 rfl
    have hw : w = W := hI.wp
    subst hw
    go_simp
    exact hI.put (d := 28) (by decide) (by simp)
  · intro a w hI
    have hI : SR _ _ _ _ a w := hI
    have e28 := hI.g 28 rfl
    have hw : w = W := hI.wp
    subst hw
    go_simp
    exact hI.put (d := 4) (by decide) (by simp)
  · intro a w hI
    have hI : SR _ _ _ _ a w := hI
    have hw : w = W := hI.wp
    subst hw
    exact hQ a hI
set_option maxRecDepth 100000 in
set_option maxHeartbeats 4000000 in
theorem ho3b (n : Nat) (W : World) (t s er : Int) (he : (er == 0) = false) (Q : Exit → Act → World → Prop) (a : Act) (h0 : SR [(5, .int .i64 t), (6, .bool true), (7, .int .i64 s), (8, .int .i64 er)] 29 [] W a W)
    (hQ : ∀ a, SR [(4, .bool false)] 29 [] (W) a (W) → Q .normal a (W)) : (regOf 3 C21).wpIn Fence.wide n Try.prog Q a W := by
  simp only [regOf, C21, Try.f21, Option.getD, Nat.reduceBEq, Bool.false_eq_true, if_true, if_false]
  refine region_sq (fun k_ a w => match k_ with | 0 => SR [(6, .bool true), (8, .int .i64 er)] 29 [] (W) a w | 1 => SR [(8, .int .i64 er), (19, .bool true)] 29 [] (W) a w | 2 => SR [(8, .int .i64 er), (20, .bool true)] 29 [] (W) a w | 3 => SR [(20, .bool true), (21, .int .i64 er)] 29 [] (W) a w | 4 => SR [(20, .bool true), (22, .bool false)] 29 [] (W) a w | 5 => SR [(23, .bool false)] 29 [] (W) a w | 6 => SR [(24, .bool false)] 29 [] (W) a w | 7 => SR [(24, .bool false)] 29 [] (W) a w | 8 => SR [(24, .bool false)] 29 [] (W) a w | 9 => SR [(24, .bool false)] 29 [] (W) a w | 10 => SR [(28, .bool false)] 29 [] (W) a w | _ => SR [(4, .bool false)] 29 [] (W) a w) (show SR _ _ _ _ a W from h0.sub (by intro p hp; simp only [List.mem_cons, List.not_mem_nil, or_false] at hp ⊢; rcases hp with h | h <;> simp [h])) ⟨?_, ?_, ?_, ?_, ?_, ?_, ?_, ?_, ?_, ?_, ?_, trivial⟩ ?_
  · intro a w hI
    have hI : SR _ _ _ _ a w := hI
    have e6 := hI.g 6 rfl
    have hw : w = W := hI.wp
    subst hw
    go_simp
    exact hI.put (d := 19) (by decide) (by simp)
  · intro a w hI
    have hI : SR _ _ _ _ a w := hI
    have e19 := hI.g 19 rfl
    have hw : w = W := hI.wp
    subst hw
    go_simp
    exact hI.put (d := 20) (by decide) (by simp)
  · intro a w hI
    have hI : SR _ _ _ _ a w := hI
    have e8 := hI.g 8 rfl
    have e20 := hI.g 20 rfl
    have f20 := slot_bool e20
    have hw : w = W := hI.wp
    subst hw
    go_simp
    exact hI.put (d := 21) (by decide) (by simp)
  · intro a w hI
    have hI : SR _ _ _ _ a w := hI
    have e21 := hI.g 21 rfl
    have e20 := hI.g 20 rfl
    have f20 := slot_bool e20
    have hw : w = W := hI.wp
    subst hw
    go_simp
    exact hI.put (d := 22) (by decide) (by simp)
  · intro a w hI
    have hI : SR _ _ _ _ a w := hI
    have e20 := hI.g 20 rfl
    have e22 := hI.g 22 rfl
    have hw : w = W := hI.wp
    subst hw
    go_simp
    exact hI.put (d := 23) (by decide) (by simp)
  · intro a w hI
    have hI : SR _ _ _ _ a w := hI
    have e23 := hI.g 23 rfl
    have hw : w = W := hI.wp
    subst hw
    go_simp
    exact hI.put (d := 24) (by decide) (by simp)
  · intro a w hI
    have hI : SR _ _ _ _ a w := hI
    have e24 := hI.g 24 rfl
    have f24 := slot_bool e24
    have hw : w = W := hI.wp
    subst hw
    go_simp
    exact hI.put (d := 25) (by decide) (by simp)
  · intro a w hI
    have hI : SR _ _ _ _ a w := hI
    have e24 := hI.g 24 rfl
    have f24 := slot_bool e24
    have hw : w = W := hI.wp
    subst hw
    go_simp
    exact hI.put (d := 26) (by decide) (by simp)
  · intro a w hI
    have hI : SR _ _ _ _ a w := hI
    have e24 := hI.g 24 rfl
    have f24 := slot_bool e24
    have hw : w = W := hI.wp
    subst hw
    go_simp
    exact hI.put (d := 27) (by decide) (by simp)
  · intro a w hI
    have hI : SR _ _ _ _ a w := hI
    have e24 := hI.g 24 rfl
    have hw : w = W := hI.wp
    subst hw
    go_simp
    exact hI.put (d := 28) (by decide) (by simp)
  · intro a w hI
    have hI : SR _ _ _ _ a w := hI
    have e28 := hI.g 28 rfl
    have hw : w = W := hI.wp
    subst hw
    go_simp
    exact hI.put (d := 4) (by decide) (by simp)
  · intro a w hI
    have hI : SR _ _ _ _ a w := hI
    have hw : w = W := hI.wp
    subst hw
    exact hQ a hI
set_option maxRecDepth 100000 in
set_option maxHeartbeats 4000000 in
theorem ho3c (n : Nat) (W : World) (t s : Int) (Q : Exit → Act → World → Prop) (a : Act) (h0 : SR [(5, .int .i64 t), (6, .bool true), (7, .int .i64 s), (8, .int .i64 0)] 29 [] W a W)
    (hQ : ∀ a, SR [(4, .bool (t == s))] 29 [] (W) a (W) → Q .normal a (W)) : (regOf 3 C21).wpIn Fence.wide n Try.prog Q a W := by
  simp only [regOf, C21, Try.f21, Option.getD, Nat.reduceBEq, Bool.false_eq_true, if_true, if_false]
  refine region_sq (fun k_ a w => match k_ with | 0 => SR [(5, .int .i64 t), (6, .bool true), (7, .int .i64 s), (8, .int .i64 0)] 29 [] (W) a w | 1 => SR [(5, .int .i64 t), (7, .int .i64 s), (8, .int .i64 0), (19, .bool true)] 29 [] (W) a w | 2 => SR [(5, .int .i64 t), (7, .int .i64 s), (8, .int .i64 0), (20, .bool true)] 29 [] (W) a w | 3 => SR [(5, .int .i64 t), (7, .int .i64 s), (20, .bool true), (21, .int .i64 0)] 29 [] (W) a w | 4 => SR [(5, .int .i64 t), (7, .int .i64 s), (20, .bool true), (22, .bool true)] 29 [] (W) a w | 5 => SR [(5, .int .i64 t), (7, .int .i64 s), (23, .bool true)] 29 [] (W) a w | 6 => SR [(5, .int .i64 t), (7, .int .i64 s), (24, .bool true)] 29 [] (W) a w | 7 => SR [(7, .int .i64 s), (24, .bool true), (25, .int .i64 t)] 29 [] (W) a w | 8 => SR [(24, .bool true), (25, .int .i64 t), (26, .int .i64 s)] 29 [] (W) a w | 9 => SR [(24, .bool true), (27, .bool (t == s))] 29 [] (W) a w | 10 => SR [(28, .bool (t == s))] 29 [] (W) a w | _ => SR [(4, .bool (t == s))] 29 [] (W) a w) (show SR _ _ _ _ a W from h0) ⟨?_, ?_, ?_, ?_, ?_, ?_, ?_, ?_, ?_, ?_, ?_, trivial⟩ ?_
  · intro a w hI
    have hI : SR _ _ _ _ a w := hI
    have e6 := hI.g 6 rfl
    have hw : w = W := hI.wp
    subst hw
    go_simp
    exact hI.put (d := 19) (by decide) (by simp)
  · intro a w hI
    have hI : SR _ _ _ _ a w := hI
    have e19 := hI.g 19 rfl
    have hw : w = W := hI.wp
    subst hw
    go_simp
    exact hI.put (d := 20) (by decide) (by simp)
  · intro a w hI
    have hI : SR _ _ _ _ a w := hI
    have e8 := hI.g 8 rfl
    have e20 := hI.g 20 rfl
    have f20 := slot_bool e20
    have hw : w = W := hI.wp
    subst hw
    go_simp
    exact hI.put (d := 21) (by decide) (by simp)
  · intro a w hI
    have hI : SR _ _ _ _ a w := hI
    have e21 := hI.g 21 rfl
    have e20 := hI.g 20 rfl
    have f20 := slot_bool e20
    have hw : w = W := hI.wp
    subst hw
    go_simp
    exact hI.put (d := 22) (by decide) (by simp)
  · intro a w hI
    have hI : SR _ _ _ _ a w := hI
    have e20 := hI.g 20 rfl
    have e22 := hI.g 22 rfl
    have hw : w = W := hI.wp
    subst hw
    go_simp
    exact hI.put (d := 23) (by decide) (by simp)
  · intro a w hI
    have hI : SR _ _ _ _ a w := hI
    have e23 := hI.g 23 rfl
    have hw : w = W := hI.wp
    subst hw
    go_simp
    exact hI.put (d := 24) (by decide) (by simp)
  · intro a w hI
    have hI : SR _ _ _ _ a w := hI
    have e5 := hI.g 5 rfl
    have e24 := hI.g 24 rfl
    have f24 := slot_bool e24
    have hw : w = W := hI.wp
    subst hw
    go_simp
    exact hI.put (d := 25) (by decide) (by simp)
  · intro a w hI
    have hI : SR _ _ _ _ a w := hI
    have e7 := hI.g 7 rfl
    have e24 := hI.g 24 rfl
    have f24 := slot_bool e24
    have hw : w = W := hI.wp
    subst hw
    go_simp
    exact hI.put (d := 26) (by decide) (by simp)
  · intro a w hI
    have hI : SR _ _ _ _ a w := hI
    have e25 := hI.g 25 rfl
    have e26 := hI.g 26 rfl
    have e24 := hI.g 24 rfl
    have f24 := slot_bool e24
    have hw : w = W := hI.wp
    subst hw
    go_simp
    exact hI.put (d := 27) (by decide) (by simp)
  · intro a w hI
    have hI : SR _ _ _ _ a w := hI
    have e24 := hI.g 24 rfl
    have e27 := hI.g 27 rfl
    have hw : w = W := hI.wp
    subst hw
    go_simp
    exact hI.put (d := 28) (by decide) (by simp)
  · intro a w hI
    have hI : SR _ _ _ _ a w := hI
    have e28 := hI.g 28 rfl
    have hw : w = W := hI.wp
    subst hw
    go_simp
    exact hI.put (d := 4) (by decide) (by simp)
  · intro a w hI
    have hI : SR _ _ _ _ a w := hI
    have hw : w = W := hI.wp
    subst hw
    exact hQ a hI
/-! ### Does a ledger hold? -/
open Pf (cellK cellL mayS spotV I64 U8 Gives movR totI totB ledgV)
theorem C21_eq : C21 = .seq (regOf 0 C21) (.seq (regOf 1 C21) (.seq (regOf 2 C21) (.seq (regOf 3 C21) .ret))) := by kernel_rfl
theorem holds_in {x0 x1 x2 x3 : Int} (h0 : I64 x0) (h1 : I64 x1) (h2 : I64 x2) (h3 : I64 x3) {l : List Hd} {w : World} {g cp : Nat} {gp : Option Addr} (hgp : 0 < l.length → gp = some ⟨g, 0, none⟩) (hR : Row w g l) (hL : l.length ≤ 100000) (n : Nat) :
    CallsIn Fence.wide n Try.prog 21 #[ledgV x0 x1 x2 x3, .slice gp l.length cp] w fun e w' => e = .returned (.bool (totB x0 x1 x2 x3 && ((totS l [] 0).2 == 0 && (totI x0 x1 x2 x3 == (totS l [] 0).1)))) ∧ Below w.heap.size w w' := by
  refine callsIn_of_wp Try.func21 rfl trivial ?_
  show C21.wpIn _ _ _ _ _ _
  rw [C21_eq]
  refine wpIn_seq (ho0 n w x0 x1 x2 x3 gp l.length cp _ _ ⟨by simp [Try.ntmps21], rfl, by simp [Try.ntmps21], rfl⟩ ?_)
  intro a1 s1
  have hH := (Has.start w).alloc (.cells #[.int .i64 x0, .int .i64 x1, .int .i64 x2, .int .i64 x3] 23)
  obtain ⟨bx, hbx⟩ : ∃ bx, bx = w.heap.size := ⟨_, rfl⟩
  rw [← hbx] at s1 hH
  refine wpIn_seq (ho1 n (Has.stable _ _) bx x0 x1 x2 x3 gp l.length cp (if totB x0 x1 x2 x3 then totI x0 x1 x2 x3 else 0) (totB x0 x1 x2 x3) (fun w hw => hw.cell0 rfl) (fun w hw => hw.cell0 rfl) (fun w hw => hw.cell0 rfl) (fun w hw => hw.cell0 rfl) (fun m w _ => Pf.c7 h0 h1 h2 h3 m w) _ a1 _ (s1.sg hH) ?_)
  intro a2 w2 s2
  refine wpIn_seq (ho2 n (Has.stable _ _) gp l.length cp _ (totS l [] 0).1 (totS l [] 0).2 _ (fun m w' hw => total_in hgp (hR.below hw.bel) hL m) _ a2 w2 s2 ?_)
  intro a3 w3 s3
  have hG := s3.wp
  have fin : ∀ (a : Act) (v : Bool), SR [(4, .bool v)] 29 [] w3 a w3 → (totB x0 x1 x2 x3 && ((totS l [] 0).2 == 0 && (totI x0 x1 x2 x3 == (totS l [] 0).1))) = v → Code.ret.wpIn Fence.wide n Try.prog (bodyPost Try.prog Try.f21 fun e w' => e = .returned (.bool (totB x0 x1 x2 x3 && ((totS l [] 0).2 == 0 && (totI x0 x1 x2 x3 == (totS l [] 0).1)))) ∧ Below w.heap.size w w') a w3 := fun a v hs hv =>
    wpIn_ret ⟨hs.defers, _, results_tmp (t := 4) rfl _ _ _, by rw [Array.getD_eq_getD_getElem?, hs.g 4 rfl, hv], hG.bel⟩
  cases hb : totB x0 x1 x2 x3 with
  | false =>
    rw [hb] at s3
    refine wpIn_seq (ho3a n w3 _ _ _ _ a3 s3.sr ?_)
    intro a4 s4
    rw [hb] at fin
    exact fin a4 _ s4 (by simp)
  | true =>
    rw [hb] at s3
    simp only [if_true] at s3
    cases he : (totS l [] 0).2 == 0 with
    | false =>
      refine wpIn_seq (ho3b n w3 _ _ _ he _ a3 s3.sr ?_)
      intro a4 s4
      rw [hb, he] at fin
      exact fin a4 _ s4 (by simp)
    | true =>
      have he2 : (totS l [] 0).2 = 0 := by simpa using he
      rw [he2] at s3
      refine wpIn_seq (ho3c n w3 _ _ _ a3 s3.sr ?_)
      intro a4 s4
      rw [hb, he] at fin
      exact fin a4 _ s4 (by simp)
/-! ### What the chapter's examples come to -/
theorem cntM_zero : ∀ i, cntM (fun _ => 0) i = 0
  | 0 => rfl
  | i + 1 => by
    have : Sx.phiB1 1 0 = false := by decide +kernel
    unfold cntM
    rw [cntM_zero i, this]; rfl
theorem mS_new0 (r : Nat) : moreS ⟨(0, 0, 0), some (r, fun _ => 0)⟩ = (-3840, 0) := by
  show (if mayS 0 0 0 = true then (((cntM (fun _ => 0) 4096 : Nat) : Int) - movR 0 0 0, (0 : Int)) else (0, 10)) = _
  rw [if_pos (by decide), cntM_zero]; rfl
theorem mS_land0 (r : Nat) : moreS ⟨(0, 0, 0), some (r, landA 0)⟩ = (0, 0) := by
  show (if mayS 0 0 0 = true then (((cntM (landA 0) 4096 : Nat) : Int) - movR 0 0 0, (0 : Int)) else (0, 10)) = _
  rw [if_pos (by decide), cntM_land (Int.le_refl _)]; rfl
theorem mS_land1 (r : Nat) : moreS ⟨(0, 1, 0), some (r, landA 0)⟩ = (3840, 0) := by
  show (if mayS 0 1 0 = true then (((cntM (landA 0) 4096 : Nat) : Int) - movR 0 1 0, (0 : Int)) else (0, 10)) = _
  rw [if_pos (by decide), cntM_land (Int.le_refl _)]; rfl
theorem mS_land4 (r : Nat) : moreS ⟨(0, 4, 0), some (r, landA 0)⟩ = (0, 10) := by
  show (if mayS 0 4 0 = true then (((cntM (landA 0) 4096 : Nat) : Int) - movR 0 4 0, (0 : Int)) else (0, 10)) = _
  rw [if_neg (by decide)]
theorem tS1 (q r : Nat) : totS [⟨(0, 0, 0), some (q, fun _ => 0)⟩, ⟨(0, 1, 0), some (r, landA 0)⟩] [] 0 = (0, 0) := by
  simp [totS, mS_new0, mS_land1]
theorem tS2 (r : Nat) : totS [⟨(0, 0, 0), some (r, landA 0)⟩, ⟨(0, 0, 0), some (r, landA 0)⟩] [] 0 = (0, 6) := by
  simp [totS, mS_land0]
theorem tS3 (q : Nat) : totS [⟨(0, 0, 0), some (q, fun _ => 0)⟩] [] 0 = (-3840, 0) := by
  simp [totS, mS_new0]
theorem kdC_block (A : Nat → Int) (b c : Nat) (t : Bool) (h : ∀ j, j < 256 → decide (A ((256 * b + j) * 2) = (c : Int)) = t) : ∀ k, k ≤ 256 → kdC A (256 * b + k) c = kdC A (256 * b) c + if t = true then k else 0
  | 0, _ => by simp
  | k + 1, hk => by
    have ih := kdC_block A b c t h k (by omega)
    rw [show 256 * b + (k + 1) = 256 * b + k + 1 from by omega]
    show kdC A (256 * b + k) c + _ = _
    have := h k (by omega)
    rw [ih]
    cases t with
    | false => rw [if_neg (of_decide_eq_false this)]; simp
    | true => rw [if_pos (of_decide_eq_true this)]; simp only [if_true]; omega
def kdK (c : Nat) : Nat → Nat
  | 0 => 0
  | b + 1 => kdK c b + if decide (cellK (0 * 16 + (b : Nat)) = (c : Int)) = true then 256 else 0
theorem kdC_sum (c : Nat) : ∀ b, kdC (landA 0) (256 * b) c = kdK c b
  | 0 => rfl
  | b + 1 => by
    have h := kdC_block (landA 0) b c (decide (cellK (0 * 16 + (b : Nat)) = (c : Int))) (fun j hj => by
      rw [landA_k, show ((256 * b + j : Nat) : Int) / 256 = (b : Nat) by omega]) 256 (by omega)
    rw [show 256 * (b + 1) = 256 * b + 256 from by omega, h, kdC_sum c b]
    rfl
theorem kd4096 (c : Nat) : kdC (landA 0) 4096 c = kdK c 16 := kdC_sum c 16
theorem kdK0 : kdK 0 16 = 0 := by decide +kernel
theorem kdK1 : kdK 1 16 = 256 := by decide +kernel
theorem kdK2 : kdK 2 16 = 2816 := by decide +kernel
theorem kdK3 : kdK 3 16 = 1024 := by decide +kernel
theorem arr_land : arrK (kdC (landA 0) 4096) = #[.int .i64 0, .int .i64 256, .int .i64 2816, .int .i64 1024, .int .i64 (kdK 4 16 : Nat), .int .i64 (kdK 5 16 : Nat), .int .i64 (kdK 6 16 : Nat), .int .i64 (kdK 7 16 : Nat), .int .i64 (kdK 8 16 : Nat), .int .i64 (kdK 9 16 : Nat), .int .i64 (kdK 10 16 : Nat), .int .i64 (kdK 11 16 : Nat), .int .i64 (kdK 12 16 : Nat), .int .i64 (kdK 13 16 : Nat), .int .i64 (kdK 14 16 : Nat)] := by
  have h : ∀ K : Nat → Nat, arrK K = #[.int .i64 (K 0 : Nat), .int .i64 (K 1 : Nat), .int .i64 (K 2 : Nat), .int .i64 (K 3 : Nat), .int .i64 (K 4 : Nat), .int .i64 (K 5 : Nat), .int .i64 (K 6 : Nat), .int .i64 (K 7 : Nat), .int .i64 (K 8 : Nat), .int .i64 (K 9 : Nat), .int .i64 (K 10 : Nat), .int .i64 (K 11 : Nat), .int .i64 (K 12 : Nat), .int .i64 (K 13 : Nat), .int .i64 (K 14 : Nat)] := fun _ => rfl
  rw [h]
  simp only [kd4096, kdK0, kdK1, kdK2, kdK3]
  rfl
/-! ### Rows of one and two -/
theorem row1 {w : World} {g : Nat} {h : Hd} (hb : w.heap[g]? = some (.cells #[.int .i64 h.sp.1, .int .i64 h.sp.2.1, .int .i64 h.sp.2.2, .pointer h.ptr] 58 (0, 0))) (ok : okS h.sp ∧ h.lies w) : Row w g [h] where
  cells i x hx := by
    rcases i with _ | i
    · simp only [List.getElem?_cons_zero, Option.some.injEq] at hx
      subst hx
      simp [World.cell?, hb]
    · simp at hx
  ok x hx := by rw [List.mem_singleton.1 hx]; exact ok
  lt _ := (Array.getElem?_eq_some_iff.1 hb).1
theorem row2 {w : World} {g : Nat} {h h' : Hd} (hb : w.heap[g]? = some (.cells #[.int .i64 h.sp.1, .int .i64 h.sp.2.1, .int .i64 h.sp.2.2, .pointer h.ptr, .int .i64 h'.sp.1, .int .i64 h'.sp.2.1, .int .i64 h'.sp.2.2, .pointer h'.ptr] 58 (0, 0))) (ok : okS h.sp ∧ h.lies w) (ok' : okS h'.sp ∧ h'.lies w) : Row w g [h, h'] where
  cells i x hx := by
    rcases i with _ | _ | i
    · simp only [List.getElem?_cons_zero, Option.some.injEq] at hx
      subst hx
      simp [World.cell?, hb]
    · simp only [List.getElem?_cons_succ, List.getElem?_cons_zero, Option.some.injEq] at hx
      subst hx
      simp [World.cell?, hb]
    · simp at hx
  ok x hx := by
    simp only [List.mem_cons, List.not_mem_nil, or_false] at hx
    rcases hx with rfl | rfl
    · exact ok
    · exact ok'
  lt _ := (Array.getElem?_eq_some_iff.1 hb).1
theorem row0 (w : World) (g : Nat) : Row w g [] := ⟨fun i x hx => by simp at hx, fun x hx => (by cases hx), fun h => (by cases h)⟩
end Go.Proofs.Ytigblagodlfedaa
