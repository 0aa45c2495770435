/- Glow: the walk of a law. -/
import Derived.RangeFuncNested
import Derived.RangeFuncBound
import Derived.RangeFuncCalls
import Derived.RangeFuncLeaves
import Derived.Shelf.Abstract
import Derived.Shelf.RegionOpen
import Derived.WalkKit
import Derived.OwnWalkIn
import Derived.TacticsInMore
import Derived.LoopNIn
import Derived.LoopIn
import Derived.Lib.Hide
import Derived.IntWalk
import Derived.Maps.AppendAt
import Derived.Test.YtdkdoopimfchbaaHand
set_option linter.unusedVariables false
set_option linter.unusedSimpArgs false
namespace Go.Proofs.Ytdkdoopimfchbaa
open Go.RowKit Go.Shelf
attribute [local go_sem] Oper.semAt_some

/-! ### fall.Row of an empty row -/
theorem info23 : (Try.prog.info? 23).map (fun i => (i.zero, i.size, i.bytes)) = some (some (.agg #[.int .u8 0, .int .u8 0]), 2, 2) := by kernel_rfl
theorem under38 : Try.prog.underlying 38 = some (.slice 23) := by kernel_rfl
theorem operIn_append_nil {F : Fence} {nF : Nat} {P : Program} {w : World} {K : Act → World → Prop} {o : Oper} {a : Act} {Q : Exit → Act → World → Prop} (s x : Operand) (t : TypeId)
    (ho : o.op = .call { callee := .builtin .append, args := #[s, x], argTypes := #[t, t] }) (e : TypeId) (i : TypeInfo) (ht : P.underlying t = some (.slice e)) (hi : P.info? e = some i) (qp : Option Addr) (l c : Nat) (hs : a.eval s = .slice qp l c) (hx : a.eval x = .slice none 0 0) (hc : l ≤ c)
    (h : K (a.put o.dst (.slice qp l c)) w) : o.wpIn F nF P a w K Q := by
  have hr : (Builtin.append_ #[t, t] o.type #[.slice qp l c, .slice none 0 0]).run P w = .ok (.slice qp l c) w := by
    cases qp <;> simp [Builtin.append_, run_underlying ht, sizeOf, typeInfo, hi, Builtin.lenOf, Builtin.firstCells, hc, storeCells]
  unfold Oper.wpIn
  refine ⟨by simp [Oper.about, ho, resolve, Target.leads, Sem.run_pure], ?_⟩
  rw [Oper.semAt_plain F _ _ (by rw [ho]; intro c hc'; cases hc')]
  simp [execOp, ho, resolve, invoke, builtin, hs, hx, hr, Result.andThen]
  exact h
noncomputable def C29 : Code := Try.f29.body.getD .skip
set_option maxRecDepth 100000 in
set_option maxHeartbeats 4000000 in
theorem ah0 (n : Nat) (W : World) (sp : Option Addr) (cap : Nat) (fv : Value) (Q : Exit → Act → World → Prop) (a : Act) (h0 : SR [(0, .slice sp 0 cap), (1, fv)] 22 [] W a W)
    (hQ : ∀ a, SR [(0, .slice sp 0 cap)] 22 [] (W) a (W) → Q .normal a (W)) : (regOf 0 C29).wpIn Fence.wide n Try.prog Q a W := by
  simp only [regOf, C29, Try.f29, Option.getD, Nat.reduceBEq, Bool.false_eq_true, if_true, if_false]
  refine region_sq (fun k_ a w => match k_ with | 0 => SR [(0, .slice sp 0 cap)] 22 [] (W) a w | _ => SR [(0, .slice sp 0 cap)] 22 [] (W) a w) (show SR _ _ _ _ a W from h0.sub (by intro p hp; simp only [List.mem_cons, List.not_mem_nil, or_false] at hp ⊢; simp [hp])) ⟨?_, trivial⟩ ?_
  · intro a w hI
    have hI : SR _ _ _ _ a w := hI
    have hw : w = W := hI.wp
    subst hw
    go_simp
    exact hI.put (d := 4) (by decide) (by simp)
  · intro a w hI
    have hI : SR _ _ _ _ a w := hI
    have hw : w = W := hI.wp
    subst hw
    exact hQ a hI
set_option maxRecDepth 100000 in
set_option maxHeartbeats 4000000 in
theorem ah1 (n : Nat) (W : World) (sp : Option Addr) (cap : Nat)  (Q : Exit → Act → World → Prop) (a : Act) (h0 : SR [(0, .slice sp 0 cap)] 22 [] W a W)
    (hQ : ∀ a, SR [(0, .slice sp 0 cap), (8, .int .i64 0), (9, .int .i64 0)] 22 [] (W) a (W) → Q .normal a (W)) : (regOf 1 C29).wpIn Fence.wide n Try.prog Q a W := by
  simp only [regOf, C29, Try.f29, Option.getD, Nat.reduceBEq, Bool.false_eq_true, if_true, if_false]
  refine region_sq (fun k_ a w => match k_ with | 0 => SR [(0, .slice sp 0 cap)] 22 [] (W) a w | 1 => SR [(0, .slice sp 0 cap), (7, .slice sp 0 cap)] 22 [] (W) a w | 2 => SR [(0, .slice sp 0 cap), (8, .int .i64 0)] 22 [] (W) a w | _ => SR [(0, .slice sp 0 cap), (8, .int .i64 0), (9, .int .i64 0)] 22 [] (W) a w) (show SR _ _ _ _ a W from h0) ⟨?_, ?_, ?_, trivial⟩ ?_
  · intro a w hI
    have hI : SR _ _ _ _ a w := hI
    have e0 := hI.g 0 rfl
    have hw : w = W := hI.wp
    subst hw
    go_simp
    exact hI.put (d := 7) (by decide) (by simp)
  · intro a w hI
    have hI : SR _ _ _ _ a w := hI
    have e7 := hI.g 7 rfl
    have hw : w = W := hI.wp
    subst hw
    go_simp
    exact hI.put (d := 8) (by decide) (by simp)
  · intro a w hI
    have hI : SR _ _ _ _ a w := hI
    have hw : w = W := hI.wp
    subst hw
    go_simp
    exact hI.put (d := 9) (by decide) (by simp)
  · intro a w hI
    have hI : SR _ _ _ _ a w := hI
    have hw : w = W := hI.wp
    subst hw
    exact hQ a hI
set_option maxRecDepth 100000 in
set_option maxHeartbeats 4000000 in
theorem ah2 (n : Nat) (W : World) (sp : Option Addr) (cap : Nat)  (Q : Exit → Act → World → Prop) (a : Act) (h0 : SR [(0, .slice sp 0 cap), (8, .int .i64 0), (9, .int .i64 0)] 22 [] W a W)
    (hQ : ∀ a, SR [(0, .slice sp 0 cap), (10, .bool false)] 22 [] (W) a (W) → Q .normal a (W)) : (regOf 2 C29).wpIn Fence.wide n Try.prog Q a W := by
  simp only [regOf, C29, Try.f29, Option.getD, Nat.reduceBEq, Bool.false_eq_true, if_true, if_false]
  refine region_sq (fun k_ a w => match k_ with | 0 => SR [(0, .slice sp 0 cap), (8, .int .i64 0), (9, .int .i64 0)] 22 [] (W) a w | _ => SR [(0, .slice sp 0 cap), (10, .bool false)] 22 [] (W) a w) (show SR _ _ _ _ a W from h0) ⟨?_, trivial⟩ ?_
  · intro a w hI
    have hI : SR _ _ _ _ a w := hI
    have e9 := hI.g 9 rfl
    have e8 := hI.g 8 rfl
    have hw : w = W := hI.wp
    subst hw
    go_simp
    exact hI.put (d := 10) (by decide) (by simp)
  · intro a w hI
    have hI : SR _ _ _ _ a w := hI
    have hw : w = W := hI.wp
    subst hw
    exact hQ a hI
set_option maxRecDepth 100000 in
set_option maxHeartbeats 4000000 in
theorem ah7 (n : Nat) (W : World) (sp : Option Addr) (cap : Nat)  (Q : Exit → Act → World → Prop) (a : Act) (h0 : SR [(0, .slice sp 0 cap)] 22 [] W a W)
    (hQ : ∀ a, SR [(4, .int .i64 0)] 22 [] (W) a (W) → Q .normal a (W)) : (regOf 7 C29).wpIn Fence.wide n Try.prog Q a W := by
  simp only [regOf, C29, Try.f29, Option.getD, Nat.reduceBEq, Bool.false_eq_true, if_true, if_false]
  refine region_sq (fun k_ a w => match k_ with | 0 => SR [(0, .slice sp 0 cap)] 22 [] (W) a w | 1 => SR [(20, .slice sp 0 cap)] 22 [] (W) a w | 2 => SR [(21, .int .i64 0)] 22 [] (W) a w | _ => SR [(4, .int .i64 0)] 22 [] (W) a w) (show SR _ _ _ _ a W from h0) ⟨?_, ?_, ?_, trivial⟩ ?_
  · intro a w hI
    have hI : SR _ _ _ _ a w := hI
    have e0 := hI.g 0 rfl
    have hw : w = W := hI.wp
    subst hw
    go_simp
    exact hI.put (d := 20) (by decide) (by simp)
  · intro a w hI
    have hI : SR _ _ _ _ a w := hI
    have e20 := hI.g 20 rfl
    have hw : w = W := hI.wp
    subst hw
    go_simp
    exact hI.put (d := 21) (by decide) (by simp)
  · intro a w hI
    have hI : SR _ _ _ _ a w := hI
    have e21 := hI.g 21 rfl
    have hw : w = W := hI.wp
    subst hw
    go_simp
    exact hI.put (d := 4) (by decide) (by simp)
  · intro a w hI
    have hI : SR _ _ _ _ a w := hI
    have hw : w = W := hI.wp
    subst hw
    exact hQ a hI
noncomputable def C12 : Code := Try.f12.body.getD .skip
set_option maxRecDepth 100000 in
set_option maxHeartbeats 4000000 in
theorem rw0 (n : Nat) (W : World) (sp : Option Addr) (cap : Nat)  (Q : Exit → Act → World → Prop) (a : Act) (h0 : SR [(0, .slice sp 0 cap)] 28 [] W a W)
    (hQ : ∀ a, SR [(0, .slice sp 0 cap)] 28 [] (W) a (W) → Q .normal a (W)) : (regOf 0 C12).wpIn Fence.wide n Try.prog Q a W := by
  simp only [regOf, C12, Try.f12, Option.getD, Nat.reduceBEq, Bool.false_eq_true, if_true, if_false]
  refine region_sq (fun k_ a w => match k_ with | 0 => SR [(0, .slice sp 0 cap)] 28 [] (W) a w | 1 => SR [(0, .slice sp 0 cap)] 28 [] (W) a w | _ => SR [(0, .slice sp 0 cap)] 28 [] (W) a w) (show SR _ _ _ _ a W from h0) ⟨?_, ?_, trivial⟩ ?_
  · intro a w hI
    have hI : SR _ _ _ _ a w := hI
    have hw : w = W := hI.wp
    subst hw
    go_simp
    exact hI.put (d := 2) (by decide) (by simp)
  · intro a w hI
    have hI : SR _ _ _ _ a w := hI
    have hw : w = W := hI.wp
    subst hw
    go_simp
    exact hI.put (d := 3) (by decide) (by simp)
  · intro a w hI
    have hI : SR _ _ _ _ a w := hI
    have hw : w = W := hI.wp
    subst hw
    exact hQ a hI
set_option maxRecDepth 100000 in
set_option maxHeartbeats 4000000 in
theorem rw1 (n : Nat) {G : World → Prop} (hS : Stable G) (sp : Option Addr) (cap : Nat)  (hc : ∀ (fv : Value) m w, G w → CallsIn Fence.wide m Try.prog 29 #[.slice sp 0 cap, fv] w fun e w' => e = .returned (.int .i64 0) ∧ Below w.heap.size w w') (Q : Exit → Act → World → Prop) (a : Act) (w : World) (h0 : SG [(0, .slice sp 0 cap)] 28 G a w)
    (hQ : ∀ a w, SG [(0, .slice sp 0 cap), (4, .int .i64 0)] 28 G a w → Q .normal a w) : (regOf 1 C12).wpIn Fence.wide n Try.prog Q a w := by
  simp only [regOf, C12, Try.f12, Option.getD, Nat.reduceBEq, Bool.false_eq_true, if_true, if_false]
  refine region_sq (fun k_ a w => match k_ with | 0 => SG [(0, .slice sp 0 cap)] 28 G a w | 1 => SG [(0, .slice sp 0 cap), (5, .slice sp 0 cap)] 28 G a w | 2 => SG [(0, .slice sp 0 cap), (6, .int .i64 0)] 28 G a w | _ => SG [(0, .slice sp 0 cap), (4, .int .i64 0)] 28 G a w) (show SG _ _ G a w from h0) ⟨?_, ?_, ?_, trivial⟩ ?_
  · intro a w hI
    have hI : SG _ _ G a w := hI
    have e0 := hI.g 0 rfl
    go_simp
    exact hI.put (d := 5) (by decide) (by simp) hI.wp
  · intro a w hI
    have hI : SG _ _ G a w := hI
    have e5 := hI.g 5 rfl
    go_simp
    refine ⟨trivial, fun h => (by cases h), (hc _ (n - 1) w hI.wp).mono ?_⟩
    rintro e w' ⟨rfl, hb2⟩
    exact hI.put (d := 6) (by decide) (by simp) (hS _ _ hI.wp hb2)
  · intro a w hI
    have hI : SG _ _ G a w := hI
    have e6 := hI.g 6 rfl
    go_simp
    exact hI.put (d := 4) (by decide) (by simp) hI.wp
  · intro a w hI
    have hI : SG _ _ G a w := hI
    exact hQ a w hI
set_option maxRecDepth 100000 in
set_option maxHeartbeats 4000000 in
theorem rw2 (n : Nat) (W : World)  (Q : Exit → Act → World → Prop) (a : Act) (h0 : SR [(4, .int .i64 0)] 28 [] W a W)
    (hQ : ∀ a, SR [(4, .int .i64 0), (7, .bool true)] 28 [] (W) a (W) → Q .normal a (W)) : (regOf 2 C12).wpIn Fence.wide n Try.prog Q a W := by
  simp only [regOf, C12, Try.f12, Option.getD, Nat.reduceBEq, Bool.false_eq_true, if_true, if_false]
  refine region_sq (fun k_ a w => match k_ with | 0 => SR [(4, .int .i64 0)] 28 [] (W) a w | 1 => SR [(4, .int .i64 0), (8, .int .i64 0)] 28 [] (W) a w | 2 => SR [(4, .int .i64 0), (9, .bool true)] 28 [] (W) a w | _ => SR [(4, .int .i64 0), (7, .bool true)] 28 [] (W) a w) (show SR _ _ _ _ a W from h0) ⟨?_, ?_, ?_, trivial⟩ ?_
  · intro a w hI
    have hI : SR _ _ _ _ a w := hI
    have e4 := hI.g 4 rfl
    have hw : w = W := hI.wp
    subst hw
    go_simp
    exact hI.put (d := 8) (by decide) (by simp)
  · intro a w hI
    have hI : SR _ _ _ _ a w := hI
    have e8 := hI.g 8 rfl
    have hw : w = W := hI.wp
    subst hw
    go_simp
    exact hI.put (d := 9) (by decide) (by simp)
  · intro a w hI
    have hI : SR _ _ _ _ a w := hI
    have e9 := hI.g 9 rfl
    have hw : w = W := hI.wp
    subst hw
    go_simp
    exact hI.put (d := 7) (by decide) (by simp)
  · intro a w hI
    have hI : SR _ _ _ _ a w := hI
    have hw : w = W := hI.wp
    subst hw
    exact hQ a hI
set_option maxRecDepth 100000 in
set_option maxHeartbeats 4000000 in
theorem rw3 (n : Nat) (W : World)  (Q : Exit → Act → World → Prop) (a : Act) (h0 : SR [] 28 [] W a W)
    (hQ : ∀ a, SR [(2, .int .i64 0), (3, .int .i64 5)] 28 [] (W) a (W) → Q .normal a (W)) : (regOf 3 C12).wpIn Fence.wide n Try.prog Q a W := by
  simp only [regOf, C12, Try.f12, Option.getD, Nat.reduceBEq, Bool.false_eq_true, if_true, if_false]
  refine region_sq (fun k_ a w => match k_ with | 0 => SR [] 28 [] (W) a w | 1 => SR [(2, .int .i64 0)] 28 [] (W) a w | _ => SR [(2, .int .i64 0), (3, .int .i64 5)] 28 [] (W) a w) (show SR _ _ _ _ a W from h0) ⟨?_, ?_, trivial⟩ ?_
  · intro a w hI
    have hI : SR _ _ _ _ a w := hI
    have hw : w = W := hI.wp
    subst hw
    go_simp
    exact hI.put (d := 2) (by decide) (by simp)
  · intro a w hI
    have hI : SR _ _ _ _ a w := hI
    have hw : w = W := hI.wp
    subst hw
    go_simp
    exact hI.put (d := 3) (by decide) (by simp)
  · intro a w hI
    have hI : SR _ _ _ _ a w := hI
    have hw : w = W := hI.wp
    subst hw
    exact hQ a hI
/-! ### FallShort: its parts -/
noncomputable def C7 : Code := Try.f7.body.getD .skip
set_option maxRecDepth 100000 in
set_option maxHeartbeats 4000000 in
theorem fs0 (n : Nat) (W : World) (o : Option Addr) (l1 cap : Nat) (v1 : Value)  (Q : Exit → Act → World → Prop) (a : Act) (h0 : SR [(0, .slice o l1 cap), (1, v1)] 146 [] W a W)
    (hQ : ∀ a, SR [(0, .slice o l1 cap), (1, v1)] 146 [] (W) a (W) → Q .normal a (W)) : (regOf 0 C7).wpIn Fence.wide n Try.prog Q a W := by
  simp only [regOf, C7, Try.f7, Option.getD, Nat.reduceBEq, Bool.false_eq_true, if_true, if_false]
  refine region_sq (fun k_ a w => match k_ with | 0 => SR [(0, .slice o l1 cap), (1, v1)] 146 [] (W) a w | _ => SR [(0, .slice o l1 cap), (1, v1)] 146 [] (W) a w) (show SR _ _ _ _ a W from h0) ⟨?_, trivial⟩ ?_
  · intro a w hI
    have hI : SR _ _ _ _ a w := hI
    have hw : w = W := hI.wp
    subst hw
    go_simp
    exact hI.put (d := 4) (by decide) (by simp)
  · intro a w hI
    have hI : SR _ _ _ _ a w := hI
    have hw : w = W := hI.wp
    subst hw
    exact hQ a hI
set_option maxRecDepth 100000 in
set_option maxHeartbeats 4000000 in
theorem fs1 (n : Nat) {G : World → Prop} (hS : Stable G) (o : Option Addr) (l1 cap : Nat) (v1 : Value) (rn re : Int) (hc : ∀ m w, G w → CallsIn Fence.wide m Try.prog 12 #[.slice o l1 cap] w fun e w' => e = .returned (.tuple #[.int .i64 rn, .int .i64 re]) ∧ Below w.heap.size w w') (Q : Exit → Act → World → Prop) (a : Act) (w : World) (h0 : SG [(0, .slice o l1 cap), (1, v1)] 146 G a w)
    (hQ : ∀ a w, SG [(0, .slice o l1 cap), (1, v1), (5, .int .i64 rn), (6, .int .i64 re)] 146 G a w → Q .normal a w) : (regOf 1 C7).wpIn Fence.wide n Try.prog Q a w := by
  simp only [regOf, C7, Try.f7, Option.getD, Nat.reduceBEq, Bool.false_eq_true, if_true, if_false]
  refine region_sq (fun k_ a w => match k_ with | 0 => SG [(0, .slice o l1 cap), (1, v1)] 146 G a w | 1 => SG [(0, .slice o l1 cap), (1, v1), (14, .slice o l1 cap)] 146 G a w | 2 => SG [(0, .slice o l1 cap), (1, v1), (15, .tuple #[.int .i64 rn, .int .i64 re])] 146 G a w | 3 => SG [(0, .slice o l1 cap), (1, v1), (13, .tuple #[.int .i64 rn, .int .i64 re])] 146 G a w | 4 => SG [(0, .slice o l1 cap), (1, v1), (13, .tuple #[.int .i64 rn, .int .i64 re]), (16, .int .i64 rn)] 146 G a w | 5 => SG [(0, .slice o l1 cap), (1, v1), (16, .int .i64 rn), (17, .int .i64 re)] 146 G a w | 6 => SG [(0, .slice o l1 cap), (1, v1), (17, .int .i64 re), (5, .int .i64 rn)] 146 G a w | _ => SG [(0, .slice o l1 cap), (1, v1), (5, .int .i64 rn), (6, .int .i64 re)] 146 G a w) (show SG _ _ G a w from h0) ⟨?_, ?_, ?_, ?_, ?_, ?_, ?_, trivial⟩ ?_
  · intro a w hI
    have hI : SG _ _ G a w := hI
    have e0 := hI.g 0 rfl
    go_simp
    exact hI.put (d := 14) (by decide) (by simp) hI.wp
  · intro a w hI
    have hI : SG _ _ G a w := hI
    have e14 := hI.g 14 rfl
    go_simp
    refine ⟨trivial, fun h => (by cases h), (hc (n - 1) w hI.wp).mono ?_⟩
    rintro e w' ⟨rfl, hb2⟩
    exact hI.put (d := 15) (by decide) (by simp) (hS _ _ hI.wp hb2)
  · intro a w hI
    have hI : SG _ _ G a w := hI
    have e15 := hI.g 15 rfl
    go_simp
    exact hI.put (d := 13) (by decide) (by simp) hI.wp
  · intro a w hI
    have hI : SG _ _ G a w := hI
    have e13 := hI.g 13 rfl
    go_simp
    exact hI.put (d := 16) (by decide) (by simp) hI.wp
  · intro a w hI
    have hI : SG _ _ G a w := hI
    have e13 := hI.g 13 rfl
    go_simp
    exact hI.put (d := 17) (by decide) (by simp) hI.wp
  · intro a w hI
    have hI : SG _ _ G a w := hI
    have e16 := hI.g 16 rfl
    go_simp
    exact hI.put (d := 5) (by decide) (by simp) hI.wp
  · intro a w hI
    have hI : SG _ _ G a w := hI
    have e17 := hI.g 17 rfl
    go_simp
    exact hI.put (d := 6) (by decide) (by simp) hI.wp
  · intro a w hI
    have hI : SG _ _ G a w := hI
    exact hQ a w hI
set_option maxRecDepth 100000 in
set_option maxHeartbeats 4000000 in
theorem fs2 (n : Nat) (W : World) (o : Option Addr) (l1 cap : Nat) (v1 : Value) (rn re : Int)  (Q : Exit → Act → World → Prop) (a : Act) (h0 : SR [(0, .slice o l1 cap), (1, v1), (5, .int .i64 rn), (6, .int .i64 re)] 146 [] W a W)
    (hQ : ∀ a, SR [(0, .slice o l1 cap), (1, v1), (5, .int .i64 rn), (6, .int .i64 re), (7, .slice none 0 0)] 146 [] (W) a (W) → Q .normal a (W)) : (regOf 2 C7).wpIn Fence.wide n Try.prog Q a W := by
  simp only [regOf, C7, Try.f7, Option.getD, Nat.reduceBEq, Bool.false_eq_true, if_true, if_false]
  refine region_sq (fun k_ a w => match k_ with | 0 => SR [(0, .slice o l1 cap), (1, v1), (5, .int .i64 rn), (6, .int .i64 re)] 146 [] (W) a w | _ => SR [(0, .slice o l1 cap), (1, v1), (5, .int .i64 rn), (6, .int .i64 re), (7, .slice none 0 0)] 146 [] (W) a w) (show SR _ _ _ _ a W from h0) ⟨?_, trivial⟩ ?_
  · intro a w hI
    have hI : SR _ _ _ _ a w := hI
    have hw : w = W := hI.wp
    subst hw
    go_simp
    exact hI.put (d := 7) (by decide) (by simp)
  · intro a w hI
    have hI : SR _ _ _ _ a w := hI
    have hw : w = W := hI.wp
    subst hw
    exact hQ a hI
set_option maxRecDepth 100000 in
set_option maxHeartbeats 4000000 in
theorem fs3 (n : Nat) {G : World → Prop} (g off l1 cap : Nat) (v1 : Value) (rn re : Int) (base : Nat) (hown : ∀ w, G w → w.ownsRow base 23 2 (.slice none 0 0) 0 ([] : List Value)) (hbs : ∀ w, G w → base ≤ w.heap.size) (news : List Value) (hnl : news.length = l1 * 2) (hnews : ∀ w, G w → ∀ j u, news[j]? = some u → w.cell? ⟨g, off + j, none⟩ = some u) (hone : ∀ u ∈ news, u.oneCell' = true) (hN2 : 0 + l1 ≤ 9000000) (G1 : Value → World → Prop) (hst : ∀ w w' q', G w → w'.ownsRow base 23 2 q' (0 + l1) (([] : List Value) ++ news) → w.grownBy w' (.slice none 0 0 : Value).ownBlock → G1 q' w') (Q : Exit → Act → World → Prop) (a : Act) (w : World) (h0 : SG [(0, .slice (some ⟨g, off, none⟩) l1 cap), (1, v1), (5, .int .i64 rn), (6, .int .i64 re), (7, .slice none 0 0)] 146 G a w)
    (hQ : ∀ q' a w, SG [(0, .slice (some ⟨g, off, none⟩) l1 cap), (1, v1), (5, .int .i64 rn), (6, .int .i64 re), (7, q')] 146 (G1 q') a w → Q .normal a w) : (regOf 3 C7).wpIn Fence.wide n Try.prog Q a w := by
  obtain ⟨i0, hi, hz0, hz1, hz2⟩ := info_parts info23
  simp only [regOf, C7, Try.f7, Option.getD, Nat.reduceBEq, Bool.false_eq_true, if_true, if_false]
  refine region_sq (fun k_ a w => match k_ with | 0 => SG [(0, .slice (some ⟨g, off, none⟩) l1 cap), (1, v1), (5, .int .i64 rn), (6, .int .i64 re), (7, .slice none 0 0)] 146 G a w | 1 => SG [(0, .slice (some ⟨g, off, none⟩) l1 cap), (1, v1), (5, .int .i64 rn), (6, .int .i64 re), (18, .slice none 0 0)] 146 G a w | 2 => SG [(0, .slice (some ⟨g, off, none⟩) l1 cap), (1, v1), (5, .int .i64 rn), (6, .int .i64 re), (18, .slice none 0 0), (19, .slice (some ⟨g, off, none⟩) l1 cap)] 146 G a w | 3 => ∃ q', SG [(0, .slice (some ⟨g, off, none⟩) l1 cap), (1, v1), (5, .int .i64 rn), (6, .int .i64 re), (20, q')] 146 (G1 q') a w | _ => ∃ q', SG [(0, .slice (some ⟨g, off, none⟩) l1 cap), (1, v1), (5, .int .i64 rn), (6, .int .i64 re), (7, q')] 146 (G1 q') a w) (show SG _ _ G a w from h0) ⟨?_, ?_, ?_, ?_, trivial⟩ ?_
  · intro a w hI
    have hI : SG _ _ G a w := hI
    have e7 := hI.g 7 rfl
    go_simp
    exact hI.put (d := 18) (by decide) (by simp) hI.wp
  · intro a w hI
    have hI : SG _ _ G a w := hI
    have e0 := hI.g 0 rfl
    go_simp
    exact hI.put (d := 19) (by decide) (by simp) hI.wp
  · intro a w hI
    have hI : SG _ _ G a w := hI
    have e18 := hI.g 18 rfl
    have e19 := hI.g 19 rfl
    rw [if_pos (by simp [Region.wanted])]
    refine operIn_append (.tmp 18) (.tmp 19) 38 rfl base 23 i0 (.agg #[.int .u8 0, .int .u8 0]) 2 2 under38 hi hz0 hz1 hz2 rfl (by decide) (.slice none 0 0) 0 ([] : List Value) (by simpa [go_sem] using e18) (hown w hI.wp) ⟨g, off, none⟩ l1 cap news (by simpa [go_sem] using e19) hnl (fun j u hj => by rw [add_none]; exact hnews w hI.wp j u hj) hone (by unfold maxLen; omega) (by omega) (hbs w hI.wp) ?_
    intro V2 w1 h1 h2 h3
    exact ⟨V2, hI.put (d := 20) (by decide) (by simp) (hst w w1 V2 hI.wp h1 h2)⟩
  · rintro a w ⟨q', hI⟩
    have e20 := hI.g 20 rfl
    go_simp
    exact ⟨q', hI.put (d := 7) (by decide) (by simp) hI.wp⟩
  · rintro a w ⟨q', hI⟩
    exact hQ q' a w hI
set_option maxRecDepth 100000 in
set_option maxHeartbeats 4000000 in
theorem fs3n (n : Nat) (W : World) (v1 : Value) (rn re : Int) (Q : Exit → Act → World → Prop) (a : Act) (h0 : SR [(0, .slice none 0 0), (1, v1), (5, .int .i64 rn), (6, .int .i64 re), (7, .slice none 0 0)] 146 [] W a W)
    (hQ : ∀ a, SR [(0, .slice none 0 0), (1, v1), (5, .int .i64 rn), (6, .int .i64 re), (7, .slice none 0 0)] 146 [] (W) a (W) → Q .normal a (W)) : (regOf 3 C7).wpIn Fence.wide n Try.prog Q a W := by
  simp only [regOf, C7, Try.f7, Option.getD, Nat.reduceBEq, Bool.false_eq_true, if_true, if_false]
  refine region_sq (fun k_ a w => match k_ with | 0 => SR [(0, .slice none 0 0), (1, v1), (5, .int .i64 rn), (6, .int .i64 re), (7, .slice none 0 0)] 146 [] (W) a w | 1 => SR [(0, .slice none 0 0), (1, v1), (5, .int .i64 rn), (6, .int .i64 re), (18, .slice none 0 0)] 146 [] (W) a w | 2 => SR [(0, .slice none 0 0), (1, v1), (5, .int .i64 rn), (6, .int .i64 re), (18, .slice none 0 0), (19, .slice none 0 0)] 146 [] (W) a w | 3 => SR [(0, .slice none 0 0), (1, v1), (5, .int .i64 rn), (6, .int .i64 re), (20, .slice none 0 0)] 146 [] (W) a w | _ => SR [(0, .slice none 0 0), (1, v1), (5, .int .i64 rn), (6, .int .i64 re), (7, .slice none 0 0)] 146 [] (W) a w) (show SR _ _ _ _ a W from h0) ⟨?_, ?_, ?_, ?_, trivial⟩ ?_
  · intro a w hI
    have hI : SR _ _ _ _ a w := hI
    have e7 := hI.g 7 rfl
    have hw : w = W := hI.wp
    subst hw
    go_simp
    exact hI.put (d := 18) (by decide) (by simp)
  · intro a w hI
    have hI : SR _ _ _ _ a w := hI
    have e0 := hI.g 0 rfl
    have hw : w = W := hI.wp
    subst hw
    go_simp
    exact hI.put (d := 19) (by decide) (by simp)
  · intro a w hI
    have hI : SR _ _ _ _ a w := hI
    have e18 := hI.g 18 rfl
    have e19 := hI.g 19 rfl
    have hw : w = W := hI.wp
    subst hw
    go_simp
    exact hI.put (d := 20) (by decide) (by simp)
  · intro a w hI
    have hI : SR _ _ _ _ a w := hI
    have e20 := hI.g 20 rfl
    have hw : w = W := hI.wp
    subst hw
    go_simp
    exact hI.put (d := 7) (by decide) (by simp)
  · intro a w hI
    have hI : SR _ _ _ _ a w := hI
    have hw : w = W := hI.wp
    subst hw
    exact hQ a hI
set_option maxRecDepth 100000 in
set_option maxHeartbeats 4000000 in
theorem fs4 (n : Nat) {G : World → Prop} (v0 q : Value) (g off l1 l2 cap : Nat) (xs : List Value) (rn re : Int) (base : Nat) (hown : ∀ w, G w → w.ownsRow base 23 2 (q) l1 xs) (hbs : ∀ w, G w → base ≤ w.heap.size) (news : List Value) (hnl : news.length = l2 * 2) (hnews : ∀ w, G w → ∀ j u, news[j]? = some u → w.cell? ⟨g, off + j, none⟩ = some u) (hone : ∀ u ∈ news, u.oneCell' = true) (hN2 : l1 + l2 ≤ 9000000) (G1 : Value → World → Prop) (hst : ∀ w w' q', G w → w'.ownsRow base 23 2 q' (l1 + l2) (xs ++ news) → w.grownBy w' (q : Value).ownBlock → G1 q' w') (Q : Exit → Act → World → Prop) (a : Act) (w : World) (h0 : SG [(0, v0), (1, .slice (some ⟨g, off, none⟩) l2 cap), (5, .int .i64 rn), (6, .int .i64 re), (7, q)] 146 G a w)
    (hQ : ∀ q' a w, SG [(0, v0), (5, .int .i64 rn), (6, .int .i64 re), (7, q')] 146 (G1 q') a w → Q .normal a w) : (regOf 4 C7).wpIn Fence.wide n Try.prog Q a w := by
  obtain ⟨i0, hi, hz0, hz1, hz2⟩ := info_parts info23
  simp only [regOf, C7, Try.f7, Option.getD, Nat.reduceBEq, Bool.false_eq_true, if_true, if_false]
  refine region_sq (fun k_ a w => match k_ with | 0 => SG [(0, v0), (1, .slice (some ⟨g, off, none⟩) l2 cap), (5, .int .i64 rn), (6, .int .i64 re), (7, q)] 146 G a w | 1 => SG [(0, v0), (1, .slice (some ⟨g, off, none⟩) l2 cap), (5, .int .i64 rn), (6, .int .i64 re), (21, q)] 146 G a w | 2 => SG [(0, v0), (5, .int .i64 rn), (6, .int .i64 re), (21, q), (22, .slice (some ⟨g, off, none⟩) l2 cap)] 146 G a w | 3 => ∃ q', SG [(0, v0), (5, .int .i64 rn), (6, .int .i64 re), (23, q')] 146 (G1 q') a w | _ => ∃ q', SG [(0, v0), (5, .int .i64 rn), (6, .int .i64 re), (7, q')] 146 (G1 q') a w) (show SG _ _ G a w from h0) ⟨?_, ?_, ?_, ?_, trivial⟩ ?_
  · intro a w hI
    have hI : SG _ _ G a w := hI
    have e7 := hI.g 7 rfl
    go_simp
    exact hI.put (d := 21) (by decide) (by simp) hI.wp
  · intro a w hI
    have hI : SG _ _ G a w := hI
    have e1 := hI.g 1 rfl
    go_simp
    exact hI.put (d := 22) (by decide) (by simp) hI.wp
  · intro a w hI
    have hI : SG _ _ G a w := hI
    have e21 := hI.g 21 rfl
    have e22 := hI.g 22 rfl
    rw [if_pos (by simp [Region.wanted])]
    refine operIn_append (.tmp 21) (.tmp 22) 38 rfl base 23 i0 (.agg #[.int .u8 0, .int .u8 0]) 2 2 under38 hi hz0 hz1 hz2 rfl (by decide) (q) l1 xs (by simpa [go_sem] using e21) (hown w hI.wp) ⟨g, off, none⟩ l2 cap news (by simpa [go_sem] using e22) hnl (fun j u hj => by rw [add_none]; exact hnews w hI.wp j u hj) hone (by unfold maxLen; omega) (by omega) (hbs w hI.wp) ?_
    intro V2 w1 h1 h2 h3
    exact ⟨V2, hI.put (d := 23) (by decide) (by simp) (hst w w1 V2 hI.wp h1 h2)⟩
  · rintro a w ⟨q', hI⟩
    have e23 := hI.g 23 rfl
    go_simp
    exact ⟨q', hI.put (d := 7) (by decide) (by simp) hI.wp⟩
  · rintro a w ⟨q', hI⟩
    exact hQ q' a w hI
set_option maxRecDepth 100000 in
set_option maxHeartbeats 4000000 in
theorem fs4n (n : Nat) (W : World) (v0 : Value) (qp : Option Addr) (l1 qc : Nat) (rn re : Int) (hcq : l1 ≤ qc) (Q : Exit → Act → World → Prop) (a : Act) (h0 : SR [(0, v0), (1, .slice none 0 0), (5, .int .i64 rn), (6, .int .i64 re), (7, .slice qp l1 qc)] 146 [] W a W)
    (hQ : ∀ a, SR [(0, v0), (5, .int .i64 rn), (6, .int .i64 re), (7, .slice qp l1 qc)] 146 [] (W) a (W) → Q .normal a (W)) : (regOf 4 C7).wpIn Fence.wide n Try.prog Q a W := by
  obtain ⟨i0, hi, hz0, hz1, hz2⟩ := info_parts info23
  simp only [regOf, C7, Try.f7, Option.getD, Nat.reduceBEq, Bool.false_eq_true, if_true, if_false]
  refine region_sq (fun k_ a w => match k_ with | 0 => SR [(0, v0), (1, .slice none 0 0), (5, .int .i64 rn), (6, .int .i64 re), (7, .slice qp l1 qc)] 146 [] (W) a w | 1 => SR [(0, v0), (1, .slice none 0 0), (5, .int .i64 rn), (6, .int .i64 re), (21, .slice qp l1 qc)] 146 [] (W) a w | 2 => SR [(0, v0), (5, .int .i64 rn), (6, .int .i64 re), (21, .slice qp l1 qc), (22, .slice none 0 0)] 146 [] (W) a w | 3 => SR [(0, v0), (5, .int .i64 rn), (6, .int .i64 re), (23, .slice qp l1 qc)] 146 [] (W) a w | _ => SR [(0, v0), (5, .int .i64 rn), (6, .int .i64 re), (7, .slice qp l1 qc)] 146 [] (W) a w) (show SR _ _ _ _ a W from h0) ⟨?_, ?_, ?_, ?_, trivial⟩ ?_
  · intro a w hI
    have hI : SR _ _ _ _ a w := hI
    have e7 := hI.g 7 rfl
    have hw : w = W := hI.wp
    subst hw
    go_simp
    exact hI.put (d := 21) (by decide) (by simp)
  · intro a w hI
    have hI : SR _ _ _ _ a w := hI
    have e1 := hI.g 1 rfl
    have hw : w = W := hI.wp
    subst hw
    go_simp
    exact hI.put (d := 22) (by decide) (by simp)
  · intro a w hI
    have hI : SR _ _ _ _ a w := hI
    have e21 := hI.g 21 rfl
    have e22 := hI.g 22 rfl
    have hw : w = W := hI.wp
    subst hw
    rw [if_pos (by simp [Region.wanted])]
    refine operIn_append_nil (.tmp 21) (.tmp 22) 38 rfl 23 i0 under38 hi qp l1 qc (by simpa [go_sem] using e21) (by simpa [go_sem] using e22) hcq ?_
    exact hI.put (d := 23) (by decide) (by simp)
  · intro a w hI
    have hI : SR _ _ _ _ a w := hI
    have e23 := hI.g 23 rfl
    have hw : w = W := hI.wp
    subst hw
    go_simp
    exact hI.put (d := 7) (by decide) (by simp)
  · intro a w hI
    have hI : SR _ _ _ _ a w := hI
    have hw : w = W := hI.wp
    subst hw
    exact hQ a hI
set_option maxRecDepth 100000 in
set_option maxHeartbeats 4000000 in
theorem fs5 (n : Nat) {G : World → Prop} (hS : Stable G) (o : Option Addr) (l1 cap : Nat) (rn re : Int) (qp : Option Addr) (L qc : Nat) (mn me : Int) (hc : ∀ m w, G w → CallsIn Fence.wide m Try.prog 12 #[.slice qp L qc] w fun e w' => e = .returned (.tuple #[.int .i64 mn, .int .i64 me]) ∧ Below w.heap.size w w') (Q : Exit → Act → World → Prop) (a : Act) (w : World) (h0 : SG [(0, .slice o l1 cap), (5, .int .i64 rn), (6, .int .i64 re), (7, .slice qp L qc)] 146 G a w)
    (hQ : ∀ a w, SG [(0, .slice o l1 cap), (5, .int .i64 rn), (6, .int .i64 re), (8, .int .i64 mn), (9, .int .i64 me)] 146 G a w → Q .normal a w) : (regOf 5 C7).wpIn Fence.wide n Try.prog Q a w := by
  simp only [regOf, C7, Try.f7, Option.getD, Nat.reduceBEq, Bool.false_eq_true, if_true, if_false]
  refine region_sq (fun k_ a w => match k_ with | 0 => SG [(0, .slice o l1 cap), (5, .int .i64 rn), (6, .int .i64 re), (7, .slice qp L qc)] 146 G a w | 1 => SG [(0, .slice o l1 cap), (5, .int .i64 rn), (6, .int .i64 re), (25, .slice qp L qc)] 146 G a w | 2 => SG [(0, .slice o l1 cap), (5, .int .i64 rn), (6, .int .i64 re), (26, .tuple #[.int .i64 mn, .int .i64 me])] 146 G a w | 3 => SG [(0, .slice o l1 cap), (5, .int .i64 rn), (6, .int .i64 re), (24, .tuple #[.int .i64 mn, .int .i64 me])] 146 G a w | 4 => SG [(0, .slice o l1 cap), (5, .int .i64 rn), (6, .int .i64 re), (24, .tuple #[.int .i64 mn, .int .i64 me]), (27, .int .i64 mn)] 146 G a w | 5 => SG [(0, .slice o l1 cap), (5, .int .i64 rn), (6, .int .i64 re), (27, .int .i64 mn), (28, .int .i64 me)] 146 G a w | 6 => SG [(0, .slice o l1 cap), (5, .int .i64 rn), (6, .int .i64 re), (28, .int .i64 me), (8, .int .i64 mn)] 146 G a w | _ => SG [(0, .slice o l1 cap), (5, .int .i64 rn), (6, .int .i64 re), (8, .int .i64 mn), (9, .int .i64 me)] 146 G a w) (show SG _ _ G a w from h0) ⟨?_, ?_, ?_, ?_, ?_, ?_, ?_, trivial⟩ ?_
  · intro a w hI
    have hI : SG _ _ G a w := hI
    have e7 := hI.g 7 rfl
    go_simp
    exact hI.put (d := 25) (by decide) (by simp) hI.wp
  · intro a w hI
    have hI : SG _ _ G a w := hI
    have e25 := hI.g 25 rfl
    go_simp
    refine ⟨trivial, fun h => (by cases h), (hc (n - 1) w hI.wp).mono ?_⟩
    rintro e w' ⟨rfl, hb2⟩
    exact hI.put (d := 26) (by decide) (by simp) (hS _ _ hI.wp hb2)
  · intro a w hI
    have hI : SG _ _ G a w := hI
    have e26 := hI.g 26 rfl
    go_simp
    exact hI.put (d := 24) (by decide) (by simp) hI.wp
  · intro a w hI
    have hI : SG _ _ G a w := hI
    have e24 := hI.g 24 rfl
    go_simp
    exact hI.put (d := 27) (by decide) (by simp) hI.wp
  · intro a w hI
    have hI : SG _ _ G a w := hI
    have e24 := hI.g 24 rfl
    go_simp
    exact hI.put (d := 28) (by decide) (by simp) hI.wp
  · intro a w hI
    have hI : SG _ _ G a w := hI
    have e27 := hI.g 27 rfl
    go_simp
    exact hI.put (d := 8) (by decide) (by simp) hI.wp
  · intro a w hI
    have hI : SG _ _ G a w := hI
    have e28 := hI.g 28 rfl
    go_simp
    exact hI.put (d := 9) (by decide) (by simp) hI.wp
  · intro a w hI
    have hI : SG _ _ G a w := hI
    exact hQ a w hI
set_option maxRecDepth 100000 in
set_option maxHeartbeats 4000000 in
theorem fs6 (n : Nat) (W : World) (o : Option Addr) (l1 cap : Nat) (rn re : Int) (mn me : Int) (Q : Exit → Act → World → Prop) (a : Act) (h0 : SR [(0, .slice o l1 cap), (5, .int .i64 rn), (6, .int .i64 re), (8, .int .i64 mn), (9, .int .i64 me)] 146 [] W a W)
    (hQ : ∀ a, SR [(0, .slice o l1 cap), (5, .int .i64 rn), (6, .int .i64 re), (8, .int .i64 mn), (9, .int .i64 me), (30, .bool (re == 0))] 146 [] (W) a (W) → Q .normal a (W)) : (regOf 6 C7).wpIn Fence.wide n Try.prog Q a W := by
  simp only [regOf, C7, Try.f7, Option.getD, Nat.reduceBEq, Bool.false_eq_true, if_true, if_false]
  refine region_sq (fun k_ a w => match k_ with | 0 => SR [(0, .slice o l1 cap), (5, .int .i64 rn), (6, .int .i64 re), (8, .int .i64 mn), (9, .int .i64 me)] 146 [] (W) a w | 1 => SR [(0, .slice o l1 cap), (5, .int .i64 rn), (6, .int .i64 re), (8, .int .i64 mn), (9, .int .i64 me), (29, .int .i64 re)] 146 [] (W) a w | _ => SR [(0, .slice o l1 cap), (5, .int .i64 rn), (6, .int .i64 re), (8, .int .i64 mn), (9, .int .i64 me), (30, .bool (re == 0))] 146 [] (W) a w) (show SR _ _ _ _ a W from h0) ⟨?_, ?_, trivial⟩ ?_
  · intro a w hI
    have hI : SR _ _ _ _ a w := hI
    have e6 := hI.g 6 rfl
    have hw : w = W := hI.wp
    subst hw
    go_simp
    exact hI.put (d := 29) (by decide) (by simp)
  · intro a w hI
    have hI : SR _ _ _ _ a w := hI
    have e29 := hI.g 29 rfl
    have hw : w = W := hI.wp
    subst hw
    go_simp
    exact hI.put (d := 30) (by decide) (by simp)
  · intro a w hI
    have hI : SR _ _ _ _ a w := hI
    have hw : w = W := hI.wp
    subst hw
    exact hQ a hI
set_option maxRecDepth 100000 in
set_option maxHeartbeats 4000000 in
theorem fs7 (n : Nat) (W : World) (g off l1 cap k : Nat)  (Q : Exit → Act → World → Prop) (a : Act) (h0 : SR [(0, .slice (some ⟨g, off, none⟩) l1 cap), (5, .int .i64 k), (6, .int .i64 0), (8, .int .i64 k), (9, .int .i64 0)] 146 [] W a W)
    (hQ : ∀ a, SR [(0, .slice (some ⟨g, off, none⟩) l1 cap), (5, .int .i64 k), (6, .int .i64 0), (8, .int .i64 k), (9, .int .i64 0), (10, .int .i64 0)] 146 [] (W) a (W) → Q .normal a (W)) : (regOf 7 C7).wpIn Fence.wide n Try.prog Q a W := by
  simp only [regOf, C7, Try.f7, Option.getD, Nat.reduceBEq, Bool.false_eq_true, if_true, if_false]
  refine region_sq (fun k_ a w => match k_ with | 0 => SR [(0, .slice (some ⟨g, off, none⟩) l1 cap), (5, .int .i64 k), (6, .int .i64 0), (8, .int .i64 k), (9, .int .i64 0)] 146 [] (W) a w | _ => SR [(0, .slice (some ⟨g, off, none⟩) l1 cap), (5, .int .i64 k), (6, .int .i64 0), (8, .int .i64 k), (9, .int .i64 0), (10, .int .i64 0)] 146 [] (W) a w) (show SR _ _ _ _ a W from h0) ⟨?_, trivial⟩ ?_
  · intro a w hI
    have hI : SR _ _ _ _ a w := hI
    have hw : w = W := hI.wp
    subst hw
    go_simp
    exact hI.put (d := 10) (by decide) (by simp)
  · intro a w hI
    have hI : SR _ _ _ _ a w := hI
    have hw : w = W := hI.wp
    subst hw
    exact hQ a hI
set_option maxRecDepth 100000 in
set_option maxHeartbeats 4000000 in
theorem fs8t (n : Nat) (W : World) (g off l1 cap k : Nat) (i : Nat) (h1 : i < k) (h2 : i < l1) (Q : Exit → Act → World → Prop) (a : Act) (h0 : SR [(0, .slice (some ⟨g, off, none⟩) l1 cap), (5, .int .i64 k), (6, .int .i64 0), (8, .int .i64 k), (9, .int .i64 0), (10, .int .i64 i)] 146 [] W a W)
    (hQ : ∀ a, SR [(0, .slice (some ⟨g, off, none⟩) l1 cap), (5, .int .i64 k), (6, .int .i64 0), (8, .int .i64 k), (9, .int .i64 0), (10, .int .i64 i), (39, .bool true)] 146 [] (W) a (W) → Q .normal a (W)) : (regOf 8 C7).wpIn Fence.wide n Try.prog Q a W := by
  simp only [regOf, C7, Try.f7, Option.getD, Nat.reduceBEq, Bool.false_eq_true, if_true, if_false]
  refine region_sq (fun k_ a w => match k_ with | 0 => SR [(0, .slice (some ⟨g, off, none⟩) l1 cap), (5, .int .i64 k), (6, .int .i64 0), (8, .int .i64 k), (9, .int .i64 0), (10, .int .i64 i)] 146 [] (W) a w | 1 => SR [(0, .slice (some ⟨g, off, none⟩) l1 cap), (5, .int .i64 k), (6, .int .i64 0), (8, .int .i64 k), (9, .int .i64 0), (10, .int .i64 i), (31, .int .i64 i)] 146 [] (W) a w | 2 => SR [(0, .slice (some ⟨g, off, none⟩) l1 cap), (5, .int .i64 k), (6, .int .i64 0), (8, .int .i64 k), (9, .int .i64 0), (10, .int .i64 i), (31, .int .i64 i), (32, .int .i64 k)] 146 [] (W) a w | 3 => SR [(0, .slice (some ⟨g, off, none⟩) l1 cap), (5, .int .i64 k), (6, .int .i64 0), (8, .int .i64 k), (9, .int .i64 0), (10, .int .i64 i), (33, .bool true)] 146 [] (W) a w | 4 => SR [(0, .slice (some ⟨g, off, none⟩) l1 cap), (5, .int .i64 k), (6, .int .i64 0), (8, .int .i64 k), (9, .int .i64 0), (10, .int .i64 i), (34, .bool true)] 146 [] (W) a w | 5 => SR [(0, .slice (some ⟨g, off, none⟩) l1 cap), (5, .int .i64 k), (6, .int .i64 0), (8, .int .i64 k), (9, .int .i64 0), (10, .int .i64 i), (34, .bool true), (35, .int .i64 i)] 146 [] (W) a w | 6 => SR [(0, .slice (some ⟨g, off, none⟩) l1 cap), (5, .int .i64 k), (6, .int .i64 0), (8, .int .i64 k), (9, .int .i64 0), (10, .int .i64 i), (34, .bool true), (35, .int .i64 i), (36, .slice (some ⟨g, off, none⟩) l1 cap)] 146 [] (W) a w | 7 => SR [(0, .slice (some ⟨g, off, none⟩) l1 cap), (5, .int .i64 k), (6, .int .i64 0), (8, .int .i64 k), (9, .int .i64 0), (10, .int .i64 i), (34, .bool true), (35, .int .i64 i), (37, .int .i64 l1)] 146 [] (W) a w | 8 => SR [(0, .slice (some ⟨g, off, none⟩) l1 cap), (5, .int .i64 k), (6, .int .i64 0), (8, .int .i64 k), (9, .int .i64 0), (10, .int .i64 i), (34, .bool true), (38, .bool true)] 146 [] (W) a w | _ => SR [(0, .slice (some ⟨g, off, none⟩) l1 cap), (5, .int .i64 k), (6, .int .i64 0), (8, .int .i64 k), (9, .int .i64 0), (10, .int .i64 i), (39, .bool true)] 146 [] (W) a w) (show SR _ _ _ _ a W from h0) ⟨?_, ?_, ?_, ?_, ?_, ?_, ?_, ?_, ?_, trivial⟩ ?_
  · intro a w hI
    have hI : SR _ _ _ _ a w := hI
    have e10 := hI.g 10 rfl
    have hw : w = W := hI.wp
    subst hw
    go_simp
    exact hI.put (d := 31) (by decide) (by simp)
  · intro a w hI
    have hI : SR _ _ _ _ a w := hI
    have e5 := hI.g 5 rfl
    have hw : w = W := hI.wp
    subst hw
    go_simp
    exact hI.put (d := 32) (by decide) (by simp)
  · intro a w hI
    have hI : SR _ _ _ _ a w := hI
    have e31 := hI.g 31 rfl
    have e32 := hI.g 32 rfl
    have hw : w = W := hI.wp
    subst hw
    go_simp
    exact hI.put (d := 33) (by decide) (by simp)
  · intro a w hI
    have hI : SR _ _ _ _ a w := hI
    have e33 := hI.g 33 rfl
    have hw : w = W := hI.wp
    subst hw
    go_simp
    exact hI.put (d := 34) (by decide) (by simp)
  · intro a w hI
    have hI : SR _ _ _ _ a w := hI
    have e10 := hI.g 10 rfl
    have e34 := hI.g 34 rfl
    have f34 := slot_bool e34
    have hw : w = W := hI.wp
    subst hw
    go_simp
    exact hI.put (d := 35) (by decide) (by simp)
  · intro a w hI
    have hI : SR _ _ _ _ a w := hI
    have e0 := hI.g 0 rfl
    have e34 := hI.g 34 rfl
    have f34 := slot_bool e34
    have hw : w = W := hI.wp
    subst hw
    go_simp
    exact hI.put (d := 36) (by decide) (by simp)
  · intro a w hI
    have hI : SR _ _ _ _ a w := hI
    have e36 := hI.g 36 rfl
    have e34 := hI.g 34 rfl
    have f34 := slot_bool e34
    have hw : w = W := hI.wp
    subst hw
    go_simp
    exact hI.put (d := 37) (by decide) (by simp)
  · intro a w hI
    have hI : SR _ _ _ _ a w := hI
    have e35 := hI.g 35 rfl
    have e37 := hI.g 37 rfl
    have e34 := hI.g 34 rfl
    have f34 := slot_bool e34
    have hw : w = W := hI.wp
    subst hw
    go_simp
    exact hI.put (d := 38) (by decide) (by simp)
  · intro a w hI
    have hI : SR _ _ _ _ a w := hI
    have e34 := hI.g 34 rfl
    have e38 := hI.g 38 rfl
    have hw : w = W := hI.wp
    subst hw
    go_simp
    exact hI.put (d := 39) (by decide) (by simp)
  · intro a w hI
    have hI : SR _ _ _ _ a w := hI
    have hw : w = W := hI.wp
    subst hw
    exact hQ a hI
set_option maxRecDepth 100000 in
set_option maxHeartbeats 4000000 in
theorem fs8f (n : Nat) (W : World) (g off l1 cap k : Nat) (i : Nat) (h1 : ¬ i < k) (Q : Exit → Act → World → Prop) (a : Act) (h0 : SR [(0, .slice (some ⟨g, off, none⟩) l1 cap), (5, .int .i64 k), (6, .int .i64 0), (8, .int .i64 k), (9, .int .i64 0), (10, .int .i64 i)] 146 [] W a W)
    (hQ : ∀ a, SR [(0, .slice (some ⟨g, off, none⟩) l1 cap), (5, .int .i64 k), (6, .int .i64 0), (8, .int .i64 k), (9, .int .i64 0), (10, .int .i64 i), (39, .bool false)] 146 [] (W) a (W) → Q .normal a (W)) : (regOf 8 C7).wpIn Fence.wide n Try.prog Q a W := by
  simp only [regOf, C7, Try.f7, Option.getD, Nat.reduceBEq, Bool.false_eq_true, if_true, if_false]
  refine region_sq (fun k_ a w => match k_ with | 0 => SR [(0, .slice (some ⟨g, off, none⟩) l1 cap), (5, .int .i64 k), (6, .int .i64 0), (8, .int .i64 k), (9, .int .i64 0), (10, .int .i64 i)] 146 [] (W) a w | 1 => SR [(0, .slice (some ⟨g, off, none⟩) l1 cap), (5, .int .i64 k), (6, .int .i64 0), (8, .int .i64 k), (9, .int .i64 0), (10, .int .i64 i), (31, .int .i64 i)] 146 [] (W) a w | 2 => SR [(0, .slice (some ⟨g, off, none⟩) l1 cap), (5, .int .i64 k), (6, .int .i64 0), (8, .int .i64 k), (9, .int .i64 0), (10, .int .i64 i), (31, .int .i64 i), (32, .int .i64 k)] 146 [] (W) a w | 3 => SR [(0, .slice (some ⟨g, off, none⟩) l1 cap), (5, .int .i64 k), (6, .int .i64 0), (8, .int .i64 k), (9, .int .i64 0), (10, .int .i64 i), (33, .bool false)] 146 [] (W) a w | 4 => SR [(0, .slice (some ⟨g, off, none⟩) l1 cap), (5, .int .i64 k), (6, .int .i64 0), (8, .int .i64 k), (9, .int .i64 0), (10, .int .i64 i), (34, .bool false)] 146 [] (W) a w | 5 => SR [(0, .slice (some ⟨g, off, none⟩) l1 cap), (5, .int .i64 k), (6, .int .i64 0), (8, .int .i64 k), (9, .int .i64 0), (10, .int .i64 i), (34, .bool false)] 146 [] (W) a w | 6 => SR [(0, .slice (some ⟨g, off, none⟩) l1 cap), (5, .int .i64 k), (6, .int .i64 0), (8, .int .i64 k), (9, .int .i64 0), (10, .int .i64 i), (34, .bool false)] 146 [] (W) a w | 7 => SR [(0, .slice (some ⟨g, off, none⟩) l1 cap), (5, .int .i64 k), (6, .int .i64 0), (8, .int .i64 k), (9, .int .i64 0), (10, .int .i64 i), (34, .bool false)] 146 [] (W) a w | 8 => SR [(0, .slice (some ⟨g, off, none⟩) l1 cap), (5, .int .i64 k), (6, .int .i64 0), (8, .int .i64 k), (9, .int .i64 0), (10, .int .i64 i), (34, .bool false)] 146 [] (W) a w | _ => SR [(0, .slice (some ⟨g, off, none⟩) l1 cap), (5, .int .i64 k), (6, .int .i64 0), (8, .int .i64 k), (9, .int .i64 0), (10, .int .i64 i), (39, .bool false)] 146 [] (W) a w) (show SR _ _ _ _ a W from h0) ⟨?_, ?_, ?_, ?_, ?_, ?_, ?_, ?_, ?_, trivial⟩ ?_
  · intro a w hI
    have hI : SR _ _ _ _ a w := hI
    have e10 := hI.g 10 rfl
    have hw : w = W := hI.wp
    subst hw
    go_simp
    exact hI.put (d := 31) (by decide) (by simp)
  · intro a w hI
    have hI : SR _ _ _ _ a w := hI
    have e5 := hI.g 5 rfl
    have hw : w = W := hI.wp
    subst hw
    go_simp
    exact hI.put (d := 32) (by decide) (by simp)
  · intro a w hI
    have hI : SR _ _ _ _ a w := hI
    have e31 := hI.g 31 rfl
    have e32 := hI.g 32 rfl
    have hw : w = W := hI.wp
    subst hw
    go_simp
    exact hI.put (d := 33) (by decide) (by simp)
  · intro a w hI
    have hI : SR _ _ _ _ a w := hI
    have e33 := hI.g 33 rfl
    have hw : w = W := hI.wp
    subst hw
    go_simp
    exact hI.put (d := 34) (by decide) (by simp)
  · intro a w hI
    have hI : SR _ _ _ _ a w := hI
    have e34 := hI.g 34 rfl
    have f34 := slot_bool e34
    have hw : w = W := hI.wp
    subst hw
    go_simp
    exact hI.put (d := 35) (by decide) (by simp)
  · intro a w hI
    have hI : SR _ _ _ _ a w := hI
    have e34 := hI.g 34 rfl
    have f34 := slot_bool e34
    have hw : w = W := hI.wp
    subst hw
    go_simp
    exact hI.put (d := 36) (by decide) (by simp)
  · intro a w hI
    have hI : SR _ _ _ _ a w := hI
    have e34 := hI.g 34 rfl
    have f34 := slot_bool e34
    have hw : w = W := hI.wp
    subst hw
    go_simp
    exact hI.put (d := 37) (by decide) (by simp)
  · intro a w hI
    have hI : SR _ _ _ _ a w := hI
    have e34 := hI.g 34 rfl
    have f34 := slot_bool e34
    have hw : w = W := hI.wp
    subst hw
    go_simp
    exact hI.put (d := 38) (by decide) (by simp)
  · intro a w hI
    have hI : SR _ _ _ _ a w := hI
    have e34 := hI.g 34 rfl
    have hw : w = W := hI.wp
    subst hw
    go_simp
    exact hI.put (d := 39) (by decide) (by simp)
  · intro a w hI
    have hI : SR _ _ _ _ a w := hI
    have hw : w = W := hI.wp
    subst hw
    exact hQ a hI
set_option maxRecDepth 100000 in
set_option maxHeartbeats 4000000 in
theorem fs9 (n : Nat) (W : World) (g off l1 cap k : Nat) (i : Nat) (hi : i < 9000000000) (Q : Exit → Act → World → Prop) (a : Act) (h0 : SR [(0, .slice (some ⟨g, off, none⟩) l1 cap), (5, .int .i64 k), (6, .int .i64 0), (8, .int .i64 k), (9, .int .i64 0), (10, .int .i64 i)] 146 [] W a W)
    (hQ : ∀ a, SR [(0, .slice (some ⟨g, off, none⟩) l1 cap), (5, .int .i64 k), (6, .int .i64 0), (8, .int .i64 k), (9, .int .i64 0), (10, .int .i64 ((i : Int) + 1))] 146 [] (W) a (W) → Q .normal a (W)) : (regOf 9 C7).wpIn Fence.wide n Try.prog Q a W := by
  simp only [regOf, C7, Try.f7, Option.getD, Nat.reduceBEq, Bool.false_eq_true, if_true, if_false]
  refine region_sq (fun k_ a w => match k_ with | 0 => SR [(0, .slice (some ⟨g, off, none⟩) l1 cap), (5, .int .i64 k), (6, .int .i64 0), (8, .int .i64 k), (9, .int .i64 0), (10, .int .i64 i)] 146 [] (W) a w | 1 => SR [(0, .slice (some ⟨g, off, none⟩) l1 cap), (5, .int .i64 k), (6, .int .i64 0), (8, .int .i64 k), (9, .int .i64 0), (40, .int .i64 i)] 146 [] (W) a w | 2 => SR [(0, .slice (some ⟨g, off, none⟩) l1 cap), (5, .int .i64 k), (6, .int .i64 0), (8, .int .i64 k), (9, .int .i64 0), (41, .int .i64 ((i : Int) + 1))] 146 [] (W) a w | _ => SR [(0, .slice (some ⟨g, off, none⟩) l1 cap), (5, .int .i64 k), (6, .int .i64 0), (8, .int .i64 k), (9, .int .i64 0), (10, .int .i64 ((i : Int) + 1))] 146 [] (W) a w) (show SR _ _ _ _ a W from h0) ⟨?_, ?_, ?_, trivial⟩ ?_
  · intro a w hI
    have hI : SR _ _ _ _ a w := hI
    have e10 := hI.g 10 rfl
    have hw : w = W := hI.wp
    subst hw
    go_simp
    exact hI.put (d := 40) (by decide) (by simp)
  · intro a w hI
    have hI : SR _ _ _ _ a w := hI
    have e40 := hI.g 40 rfl
    have hw : w = W := hI.wp
    subst hw
    have hw1 : IntKind.i64.wrap ((i : Int) + 1) = (i : Int) + 1 := IntWalk.i64_in _ (by omega)
    go_simp
    exact hI.put (d := 41) (by decide) (by simp)
  · intro a w hI
    have hI : SR _ _ _ _ a w := hI
    have e41 := hI.g 41 rfl
    have hw : w = W := hI.wp
    subst hw
    go_simp
    exact hI.put (d := 10) (by decide) (by simp)
  · intro a w hI
    have hI : SR _ _ _ _ a w := hI
    have hw : w = W := hI.wp
    subst hw
    exact hQ a hI
set_option maxRecDepth 100000 in
set_option maxHeartbeats 4000000 in
theorem fs10 (n : Nat) {G : World → Prop} (hS : Stable G) (g off l1 cap k : Nat) (i kk : Nat) (h2 : i < l1) (ca0 : ∀ w, G w → w.cell? ⟨g, off + i * 2, none⟩ = some (.int .u8 kk)) (hm : ∀ m w, G w → CallsIn Fence.wide m Try.prog 20 #[.int .u8 kk] w fun e w' => e = .returned (.bool true) ∧ Below w.heap.size w w') (Q : Exit → Act → World → Prop) (a : Act) (w : World) (h0 : SG [(0, .slice (some ⟨g, off, none⟩) l1 cap), (5, .int .i64 k), (6, .int .i64 0), (8, .int .i64 k), (9, .int .i64 0), (10, .int .i64 i)] 146 G a w)
    (hQ : ∀ a w, SG [(0, .slice (some ⟨g, off, none⟩) l1 cap), (5, .int .i64 k), (6, .int .i64 0), (8, .int .i64 k), (9, .int .i64 0), (10, .int .i64 i), (48, .bool false)] 146 G a w → Q .normal a w) : (regOf 10 C7).wpIn Fence.wide n Try.prog Q a w := by
  simp only [regOf, C7, Try.f7, Option.getD, Nat.reduceBEq, Bool.false_eq_true, if_true, if_false]
  refine region_sq (fun k_ a w => match k_ with | 0 => SG [(0, .slice (some ⟨g, off, none⟩) l1 cap), (5, .int .i64 k), (6, .int .i64 0), (8, .int .i64 k), (9, .int .i64 0), (10, .int .i64 i)] 146 G a w | 1 => SG [(0, .slice (some ⟨g, off, none⟩) l1 cap), (5, .int .i64 k), (6, .int .i64 0), (8, .int .i64 k), (9, .int .i64 0), (10, .int .i64 i), (42, .slice (some ⟨g, off, none⟩) l1 cap)] 146 G a w | 2 => SG [(0, .slice (some ⟨g, off, none⟩) l1 cap), (5, .int .i64 k), (6, .int .i64 0), (8, .int .i64 k), (9, .int .i64 0), (10, .int .i64 i), (42, .slice (some ⟨g, off, none⟩) l1 cap), (43, .int .i64 i)] 146 G a w | 3 => SG [(0, .slice (some ⟨g, off, none⟩) l1 cap), (5, .int .i64 k), (6, .int .i64 0), (8, .int .i64 k), (9, .int .i64 0), (10, .int .i64 i), (44, .pointer (some ⟨g, off + i * 2, none⟩))] 146 G a w | 4 => SG [(0, .slice (some ⟨g, off, none⟩) l1 cap), (5, .int .i64 k), (6, .int .i64 0), (8, .int .i64 k), (9, .int .i64 0), (10, .int .i64 i), (45, .pointer (some ⟨g, off + i * 2, none⟩))] 146 G a w | 5 => SG [(0, .slice (some ⟨g, off, none⟩) l1 cap), (5, .int .i64 k), (6, .int .i64 0), (8, .int .i64 k), (9, .int .i64 0), (10, .int .i64 i), (46, .int .u8 kk)] 146 G a w | 6 => SG [(0, .slice (some ⟨g, off, none⟩) l1 cap), (5, .int .i64 k), (6, .int .i64 0), (8, .int .i64 k), (9, .int .i64 0), (10, .int .i64 i), (47, .bool true)] 146 G a w | _ => SG [(0, .slice (some ⟨g, off, none⟩) l1 cap), (5, .int .i64 k), (6, .int .i64 0), (8, .int .i64 k), (9, .int .i64 0), (10, .int .i64 i), (48, .bool false)] 146 G a w) (show SG _ _ G a w from h0) ⟨?_, ?_, ?_, ?_, ?_, ?_, ?_, trivial⟩ ?_
  · intro a w hI
    have hI : SG _ _ G a w := hI
    have e0 := hI.g 0 rfl
    go_simp
    exact hI.put (d := 42) (by decide) (by simp) hI.wp
  · intro a w hI
    have hI : SG _ _ G a w := hI
    have e10 := hI.g 10 rfl
    go_simp
    exact hI.put (d := 43) (by decide) (by simp) hI.wp
  · intro a w hI
    have hI : SG _ _ G a w := hI
    have e42 := hI.g 42 rfl
    have e43 := hI.g 43 rfl
    have q1_2 : (0 : Int) ≤ i := by omega
    have q2_2 : (i : Int) < l1 := by omega
    go_simp
    exact hI.put (d := 44) (by decide) (by simp) hI.wp
  · intro a w hI
    have hI : SG _ _ G a w := hI
    have e44 := hI.g 44 rfl
    go_simp
    exact hI.put (d := 45) (by decide) (by simp) hI.wp
  · intro a w hI
    have hI : SG _ _ G a w := hI
    have e45 := hI.g 45 rfl
    have cc0 := ca0 w hI.wp
    go_simp
    exact hI.put (d := 46) (by decide) (by simp) hI.wp
  · intro a w hI
    have hI : SG _ _ G a w := hI
    have e46 := hI.g 46 rfl
    go_simp
    refine ⟨trivial, fun h => (by cases h), (hm (n - 1) w hI.wp).mono ?_⟩
    rintro e w' ⟨rfl, hb2⟩
    exact hI.put (d := 47) (by decide) (by simp) (hS _ _ hI.wp hb2)
  · intro a w hI
    have hI : SG _ _ G a w := hI
    have e47 := hI.g 47 rfl
    go_simp
    exact hI.put (d := 48) (by decide) (by simp) hI.wp
  · intro a w hI
    have hI : SG _ _ G a w := hI
    exact hQ a w hI
set_option maxRecDepth 100000 in
set_option maxHeartbeats 4000000 in
theorem fs12 (n : Nat) {G : World → Prop} (hS : Stable G) (g off l1 cap k : Nat) (kk : Nat) (h0' : 0 < k) (h8 : k ≤ 8) (hl : k < l1) (ca0 : ∀ w, G w → w.cell? ⟨g, off + k * 2, none⟩ = some (.int .u8 kk)) (hy : ∀ m w, G w → CallsIn Fence.wide m Try.prog 21 #[.int .u8 kk] w fun e w' => e = .returned (.bool true) ∧ Below w.heap.size w w') (hw : ∀ m w, G w → CallsIn Fence.wide m Try.prog 11 #[] w fun e w' => e = .returned (.bool true) ∧ Below w.heap.size w w') (Q : Exit → Act → World → Prop) (a : Act) (w : World) (h0 : SG [(0, .slice (some ⟨g, off, none⟩) l1 cap), (5, .int .i64 k), (6, .int .i64 0), (8, .int .i64 k), (9, .int .i64 0)] 146 G a w)
    (hQ : ∀ a w, SG [(4, .bool true)] 146 G a w → Q .normal a w) : (regOf 12 C7).wpIn Fence.wide n Try.prog Q a w := by
  simp only [regOf, C7, Try.f7, Option.getD, Nat.reduceBEq, Bool.false_eq_true, if_true, if_false]
  refine region_sq (fun k_ a w => match k_ with | 0 => SG [(0, .slice (some ⟨g, off, none⟩) l1 cap), (5, .int .i64 k), (6, .int .i64 0), (8, .int .i64 k), (9, .int .i64 0)] 146 G a w | 1 => SG [(0, .slice (some ⟨g, off, none⟩) l1 cap), (5, .int .i64 k), (6, .int .i64 0), (8, .int .i64 k), (9, .int .i64 0), (49, .int .i64 k)] 146 G a w | 2 => SG [(0, .slice (some ⟨g, off, none⟩) l1 cap), (5, .int .i64 k), (6, .int .i64 0), (8, .int .i64 k), (9, .int .i64 0), (50, .bool true)] 146 G a w | 3 => SG [(0, .slice (some ⟨g, off, none⟩) l1 cap), (5, .int .i64 k), (6, .int .i64 0), (8, .int .i64 k), (9, .int .i64 0), (51, .bool true)] 146 G a w | 4 => SG [(0, .slice (some ⟨g, off, none⟩) l1 cap), (5, .int .i64 k), (6, .int .i64 0), (8, .int .i64 k), (9, .int .i64 0), (51, .bool true), (52, .int .i64 k)] 146 G a w | 5 => SG [(0, .slice (some ⟨g, off, none⟩) l1 cap), (5, .int .i64 k), (6, .int .i64 0), (8, .int .i64 k), (9, .int .i64 0), (51, .bool true), (53, .bool true)] 146 G a w | 6 => SG [(0, .slice (some ⟨g, off, none⟩) l1 cap), (5, .int .i64 k), (6, .int .i64 0), (8, .int .i64 k), (9, .int .i64 0), (54, .bool true)] 146 G a w | 7 => SG [(0, .slice (some ⟨g, off, none⟩) l1 cap), (5, .int .i64 k), (6, .int .i64 0), (8, .int .i64 k), (9, .int .i64 0), (55, .bool true)] 146 G a w | 8 => SG [(0, .slice (some ⟨g, off, none⟩) l1 cap), (5, .int .i64 k), (6, .int .i64 0), (8, .int .i64 k), (9, .int .i64 0), (55, .bool true), (56, .int .i64 k)] 146 G a w | 9 => SG [(0, .slice (some ⟨g, off, none⟩) l1 cap), (5, .int .i64 k), (6, .int .i64 0), (8, .int .i64 k), (9, .int .i64 0), (55, .bool true), (56, .int .i64 k), (57, .slice (some ⟨g, off, none⟩) l1 cap)] 146 G a w | 10 => SG [(0, .slice (some ⟨g, off, none⟩) l1 cap), (5, .int .i64 k), (6, .int .i64 0), (8, .int .i64 k), (9, .int .i64 0), (55, .bool true), (56, .int .i64 k), (58, .int .i64 l1)] 146 G a w | 11 => SG [(0, .slice (some ⟨g, off, none⟩) l1 cap), (5, .int .i64 k), (6, .int .i64 0), (8, .int .i64 k), (9, .int .i64 0), (55, .bool true), (59, .bool true)] 146 G a w | 12 => SG [(0, .slice (some ⟨g, off, none⟩) l1 cap), (5, .int .i64 k), (6, .int .i64 0), (8, .int .i64 k), (9, .int .i64 0), (60, .bool true)] 146 G a w | 13 => SG [(0, .slice (some ⟨g, off, none⟩) l1 cap), (5, .int .i64 k), (6, .int .i64 0), (8, .int .i64 k), (9, .int .i64 0), (61, .bool true)] 146 G a w | 14 => SG [(5, .int .i64 k), (6, .int .i64 0), (8, .int .i64 k), (9, .int .i64 0), (61, .bool true), (62, .slice (some ⟨g, off, none⟩) l1 cap)] 146 G a w | 15 => SG [(5, .int .i64 k), (6, .int .i64 0), (8, .int .i64 k), (9, .int .i64 0), (61, .bool true), (62, .slice (some ⟨g, off, none⟩) l1 cap), (63, .int .i64 k)] 146 G a w | 16 => SG [(5, .int .i64 k), (6, .int .i64 0), (8, .int .i64 k), (9, .int .i64 0), (61, .bool true), (64, .pointer (some ⟨g, off + k * 2, none⟩))] 146 G a w | 17 => SG [(5, .int .i64 k), (6, .int .i64 0), (8, .int .i64 k), (9, .int .i64 0), (61, .bool true), (65, .pointer (some ⟨g, off + k * 2, none⟩))] 146 G a w | 18 => SG [(5, .int .i64 k), (6, .int .i64 0), (8, .int .i64 k), (9, .int .i64 0), (61, .bool true), (66, .int .u8 kk)] 146 G a w | 19 => SG [(5, .int .i64 k), (6, .int .i64 0), (8, .int .i64 k), (9, .int .i64 0), (61, .bool true), (67, .bool true)] 146 G a w | 20 => SG [(5, .int .i64 k), (6, .int .i64 0), (8, .int .i64 k), (9, .int .i64 0), (68, .bool true)] 146 G a w | 21 => SG [(5, .int .i64 k), (6, .int .i64 0), (8, .int .i64 k), (9, .int .i64 0), (69, .bool true)] 146 G a w | 22 => SG [(5, .int .i64 k), (6, .int .i64 0), (9, .int .i64 0), (69, .bool true), (70, .int .i64 k)] 146 G a w | 23 => SG [(6, .int .i64 0), (9, .int .i64 0), (69, .bool true), (70, .int .i64 k), (71, .int .i64 k)] 146 G a w | 24 => SG [(6, .int .i64 0), (9, .int .i64 0), (69, .bool true), (72, .bool true)] 146 G a w | 25 => SG [(6, .int .i64 0), (9, .int .i64 0), (73, .bool true)] 146 G a w | 26 => SG [(6, .int .i64 0), (9, .int .i64 0), (74, .bool true)] 146 G a w | 27 => SG [(6, .int .i64 0), (74, .bool true), (75, .int .i64 0)] 146 G a w | 28 => SG [(74, .bool true), (75, .int .i64 0), (76, .int .i64 0)] 146 G a w | 29 => SG [(74, .bool true), (77, .bool true)] 146 G a w | 30 => SG [(78, .bool true)] 146 G a w | 31 => SG [(79, .bool true)] 146 G a w | 32 => SG [(79, .bool true), (80, .bool true)] 146 G a w | 33 => SG [(81, .bool true)] 146 G a w | _ => SG [(4, .bool true)] 146 G a w) (show SG _ _ G a w from h0) ⟨?_, ?_, ?_, ?_, ?_, ?_, ?_, ?_, ?_, ?_, ?_, ?_, ?_, ?_, ?_, ?_, ?_, ?_, ?_, ?_, ?_, ?_, ?_, ?_, ?_, ?_, ?_, ?_, ?_, ?_, ?_, ?_, ?_, ?_, trivial⟩ ?_
  · intro a w hI
    have hI : SG _ _ G a w := hI
    have e5 := hI.g 5 rfl
    go_simp
    exact hI.put (d := 49) (by decide) (by simp) hI.wp
  · intro a w hI
    have hI : SG _ _ G a w := hI
    have e49 := hI.g 49 rfl
    go_simp
    exact hI.put (d := 50) (by decide) (by simp) hI.wp
  · intro a w hI
    have hI : SG _ _ G a w := hI
    have e50 := hI.g 50 rfl
    go_simp
    exact hI.put (d := 51) (by decide) (by simp) hI.wp
  · intro a w hI
    have hI : SG _ _ G a w := hI
    have e5 := hI.g 5 rfl
    have e51 := hI.g 51 rfl
    have f51 := slot_bool e51
    go_simp
    exact hI.put (d := 52) (by decide) (by simp) hI.wp
  · intro a w hI
    have hI : SG _ _ G a w := hI
    have e52 := hI.g 52 rfl
    have e51 := hI.g 51 rfl
    have f51 := slot_bool e51
    have z : (k : Int) ≤ 8 := by omega
    go_simp
    exact hI.put (d := 53) (by decide) (by simp) hI.wp
  · intro a w hI
    have hI : SG _ _ G a w := hI
    have e51 := hI.g 51 rfl
    have e53 := hI.g 53 rfl
    go_simp
    exact hI.put (d := 54) (by decide) (by simp) hI.wp
  · intro a w hI
    have hI : SG _ _ G a w := hI
    have e54 := hI.g 54 rfl
    go_simp
    exact hI.put (d := 55) (by decide) (by simp) hI.wp
  · intro a w hI
    have hI : SG _ _ G a w := hI
    have e5 := hI.g 5 rfl
    have e55 := hI.g 55 rfl
    have f55 := slot_bool e55
    go_simp
    exact hI.put (d := 56) (by decide) (by simp) hI.wp
  · intro a w hI
    have hI : SG _ _ G a w := hI
    have e0 := hI.g 0 rfl
    have e55 := hI.g 55 rfl
    have f55 := slot_bool e55
    go_simp
    exact hI.put (d := 57) (by decide) (by simp) hI.wp
  · intro a w hI
    have hI : SG _ _ G a w := hI
    have e57 := hI.g 57 rfl
    have e55 := hI.g 55 rfl
    have f55 := slot_bool e55
    go_simp
    exact hI.put (d := 58) (by decide) (by simp) hI.wp
  · intro a w hI
    have hI : SG _ _ G a w := hI
    have e56 := hI.g 56 rfl
    have e58 := hI.g 58 rfl
    have e55 := hI.g 55 rfl
    have f55 := slot_bool e55
    go_simp
    exact hI.put (d := 59) (by decide) (by simp) hI.wp
  · intro a w hI
    have hI : SG _ _ G a w := hI
    have e55 := hI.g 55 rfl
    have e59 := hI.g 59 rfl
    go_simp
    exact hI.put (d := 60) (by decide) (by simp) hI.wp
  · intro a w hI
    have hI : SG _ _ G a w := hI
    have e60 := hI.g 60 rfl
    go_simp
    exact hI.put (d := 61) (by decide) (by simp) hI.wp
  · intro a w hI
    have hI : SG _ _ G a w := hI
    have e0 := hI.g 0 rfl
    have e61 := hI.g 61 rfl
    have f61 := slot_bool e61
    go_simp
    exact hI.put (d := 62) (by decide) (by simp) hI.wp
  · intro a w hI
    have hI : SG _ _ G a w := hI
    have e5 := hI.g 5 rfl
    have e61 := hI.g 61 rfl
    have f61 := slot_bool e61
    go_simp
    exact hI.put (d := 63) (by decide) (by simp) hI.wp
  · intro a w hI
    have hI : SG _ _ G a w := hI
    have e62 := hI.g 62 rfl
    have e63 := hI.g 63 rfl
    have e61 := hI.g 61 rfl
    have f61 := slot_bool e61
    have q1_15 : (0 : Int) ≤ k := by omega
    have q2_15 : (k : Int) < l1 := by omega
    go_simp
    exact hI.put (d := 64) (by decide) (by simp) hI.wp
  · intro a w hI
    have hI : SG _ _ G a w := hI
    have e64 := hI.g 64 rfl
    have e61 := hI.g 61 rfl
    have f61 := slot_bool e61
    go_simp
    exact hI.put (d := 65) (by decide) (by simp) hI.wp
  · intro a w hI
    have hI : SG _ _ G a w := hI
    have e65 := hI.g 65 rfl
    have e61 := hI.g 61 rfl
    have f61 := slot_bool e61
    have cc0 := ca0 w hI.wp
    go_simp
    exact hI.put (d := 66) (by decide) (by simp) hI.wp
  · intro a w hI
    have hI : SG _ _ G a w := hI
    have e66 := hI.g 66 rfl
    have e61 := hI.g 61 rfl
    have f61 := slot_bool e61
    go_simp
    refine ⟨trivial, fun h => (by cases h), (hy (n - 1) w hI.wp).mono ?_⟩
    rintro e w' ⟨rfl, hb2⟩
    exact hI.put (d := 67) (by decide) (by simp) (hS _ _ hI.wp hb2)
  · intro a w hI
    have hI : SG _ _ G a w := hI
    have e61 := hI.g 61 rfl
    have e67 := hI.g 67 rfl
    go_simp
    exact hI.put (d := 68) (by decide) (by simp) hI.wp
  · intro a w hI
    have hI : SG _ _ G a w := hI
    have e68 := hI.g 68 rfl
    go_simp
    exact hI.put (d := 69) (by decide) (by simp) hI.wp
  · intro a w hI
    have hI : SG _ _ G a w := hI
    have e8 := hI.g 8 rfl
    have e69 := hI.g 69 rfl
    have f69 := slot_bool e69
    go_simp
    exact hI.put (d := 70) (by decide) (by simp) hI.wp
  · intro a w hI
    have hI : SG _ _ G a w := hI
    have e5 := hI.g 5 rfl
    have e69 := hI.g 69 rfl
    have f69 := slot_bool e69
    go_simp
    exact hI.put (d := 71) (by decide) (by simp) hI.wp
  · intro a w hI
    have hI : SG _ _ G a w := hI
    have e70 := hI.g 70 rfl
    have e71 := hI.g 71 rfl
    have e69 := hI.g 69 rfl
    have f69 := slot_bool e69
    go_simp
    exact hI.put (d := 72) (by decide) (by simp) hI.wp
  · intro a w hI
    have hI : SG _ _ G a w := hI
    have e69 := hI.g 69 rfl
    have e72 := hI.g 72 rfl
    go_simp
    exact hI.put (d := 73) (by decide) (by simp) hI.wp
  · intro a w hI
    have hI : SG _ _ G a w := hI
    have e73 := hI.g 73 rfl
    go_simp
    exact hI.put (d := 74) (by decide) (by simp) hI.wp
  · intro a w hI
    have hI : SG _ _ G a w := hI
    have e9 := hI.g 9 rfl
    have e74 := hI.g 74 rfl
    have f74 := slot_bool e74
    go_simp
    exact hI.put (d := 75) (by decide) (by simp) hI.wp
  · intro a w hI
    have hI : SG _ _ G a w := hI
    have e6 := hI.g 6 rfl
    have e74 := hI.g 74 rfl
    have f74 := slot_bool e74
    go_simp
    exact hI.put (d := 76) (by decide) (by simp) hI.wp
  · intro a w hI
    have hI : SG _ _ G a w := hI
    have e75 := hI.g 75 rfl
    have e76 := hI.g 76 rfl
    have e74 := hI.g 74 rfl
    have f74 := slot_bool e74
    go_simp
    exact hI.put (d := 77) (by decide) (by simp) hI.wp
  · intro a w hI
    have hI : SG _ _ G a w := hI
    have e74 := hI.g 74 rfl
    have e77 := hI.g 77 rfl
    go_simp
    exact hI.put (d := 78) (by decide) (by simp) hI.wp
  · intro a w hI
    have hI : SG _ _ G a w := hI
    have e78 := hI.g 78 rfl
    go_simp
    exact hI.put (d := 79) (by decide) (by simp) hI.wp
  · intro a w hI
    have hI : SG _ _ G a w := hI
    have e79 := hI.g 79 rfl
    have f79 := slot_bool e79
    go_simp
    refine ⟨trivial, fun h => (by cases h), (hw (n - 1) w hI.wp).mono ?_⟩
    rintro e w' ⟨rfl, hb2⟩
    exact hI.put (d := 80) (by decide) (by simp) (hS _ _ hI.wp hb2)
  · intro a w hI
    have hI : SG _ _ G a w := hI
    have e79 := hI.g 79 rfl
    have e80 := hI.g 80 rfl
    go_simp
    exact hI.put (d := 81) (by decide) (by simp) hI.wp
  · intro a w hI
    have hI : SG _ _ G a w := hI
    have e81 := hI.g 81 rfl
    go_simp
    exact hI.put (d := 4) (by decide) (by simp) hI.wp
  · intro a w hI
    have hI : SG _ _ G a w := hI
    exact hQ a w hI
set_option maxRecDepth 100000 in
set_option maxHeartbeats 4000000 in
theorem fs13a (n : Nat) (W : World) (o : Option Addr) (l1 cap : Nat) (h0' : 0 < l1) (Q : Exit → Act → World → Prop) (a : Act) (h0 : SR [(0, .slice o l1 cap), (5, .int .i64 0), (6, .int .i64 5), (8, .int .i64 0), (9, .int .i64 5)] 146 [] W a W)
    (hQ : ∀ a, SR [(0, .slice o l1 cap), (5, .int .i64 0), (6, .int .i64 5), (8, .int .i64 0), (9, .int .i64 5), (101, .bool false)] 146 [] (W) a (W) → Q .normal a (W)) : (regOf 13 C7).wpIn Fence.wide n Try.prog Q a W := by
  simp only [regOf, C7, Try.f7, Option.getD, Nat.reduceBEq, Bool.false_eq_true, if_true, if_false]
  refine region_sq (fun k_ a w => match k_ with | 0 => SR [(0, .slice o l1 cap), (5, .int .i64 0), (6, .int .i64 5), (8, .int .i64 0), (9, .int .i64 5)] 146 [] (W) a w | 1 => SR [(0, .slice o l1 cap), (5, .int .i64 0), (6, .int .i64 5), (8, .int .i64 0), (9, .int .i64 5), (82, .int .i64 0)] 146 [] (W) a w | 2 => SR [(0, .slice o l1 cap), (5, .int .i64 0), (6, .int .i64 5), (8, .int .i64 0), (9, .int .i64 5), (83, .bool false)] 146 [] (W) a w | 3 => SR [(0, .slice o l1 cap), (5, .int .i64 0), (6, .int .i64 5), (8, .int .i64 0), (9, .int .i64 5), (84, .bool false)] 146 [] (W) a w | 4 => SR [(0, .slice o l1 cap), (5, .int .i64 0), (6, .int .i64 5), (8, .int .i64 0), (9, .int .i64 5), (84, .bool false), (85, .int .i64 5)] 146 [] (W) a w | 5 => SR [(0, .slice o l1 cap), (5, .int .i64 0), (6, .int .i64 5), (8, .int .i64 0), (9, .int .i64 5), (84, .bool false), (86, .bool true)] 146 [] (W) a w | 6 => SR [(0, .slice o l1 cap), (5, .int .i64 0), (6, .int .i64 5), (8, .int .i64 0), (9, .int .i64 5), (84, .bool false), (87, .bool true)] 146 [] (W) a w | 7 => SR [(0, .slice o l1 cap), (5, .int .i64 0), (6, .int .i64 5), (8, .int .i64 0), (9, .int .i64 5), (84, .bool false), (87, .bool true), (88, .slice o l1 cap)] 146 [] (W) a w | 8 => SR [(0, .slice o l1 cap), (5, .int .i64 0), (6, .int .i64 5), (8, .int .i64 0), (9, .int .i64 5), (84, .bool false), (87, .bool true), (89, .int .i64 l1)] 146 [] (W) a w | 9 => SR [(0, .slice o l1 cap), (5, .int .i64 0), (6, .int .i64 5), (8, .int .i64 0), (9, .int .i64 5), (84, .bool false), (87, .bool true), (90, .bool true)] 146 [] (W) a w | 10 => SR [(0, .slice o l1 cap), (5, .int .i64 0), (6, .int .i64 5), (8, .int .i64 0), (9, .int .i64 5), (84, .bool false), (91, .bool true)] 146 [] (W) a w | 11 => SR [(0, .slice o l1 cap), (5, .int .i64 0), (6, .int .i64 5), (8, .int .i64 0), (9, .int .i64 5), (84, .bool false), (92, .bool true)] 146 [] (W) a w | 12 => SR [(0, .slice o l1 cap), (5, .int .i64 0), (6, .int .i64 5), (8, .int .i64 0), (9, .int .i64 5), (84, .bool false), (92, .bool true), (93, .int .i64 0)] 146 [] (W) a w | 13 => SR [(0, .slice o l1 cap), (5, .int .i64 0), (6, .int .i64 5), (8, .int .i64 0), (9, .int .i64 5), (84, .bool false), (92, .bool true), (94, .bool false)] 146 [] (W) a w | 14 => SR [(0, .slice o l1 cap), (5, .int .i64 0), (6, .int .i64 5), (8, .int .i64 0), (9, .int .i64 5), (84, .bool false), (92, .bool true), (95, .bool false)] 146 [] (W) a w | 15 => SR [(0, .slice o l1 cap), (5, .int .i64 0), (6, .int .i64 5), (8, .int .i64 0), (9, .int .i64 5), (84, .bool false), (92, .bool true), (95, .bool false), (96, .int .i64 5)] 146 [] (W) a w | 16 => SR [(0, .slice o l1 cap), (5, .int .i64 0), (6, .int .i64 5), (8, .int .i64 0), (9, .int .i64 5), (84, .bool false), (92, .bool true), (95, .bool false), (96, .int .i64 5), (97, .int .i64 5)] 146 [] (W) a w | 17 => SR [(0, .slice o l1 cap), (5, .int .i64 0), (6, .int .i64 5), (8, .int .i64 0), (9, .int .i64 5), (84, .bool false), (92, .bool true), (95, .bool false), (98, .bool false)] 146 [] (W) a w | 18 => SR [(0, .slice o l1 cap), (5, .int .i64 0), (6, .int .i64 5), (8, .int .i64 0), (9, .int .i64 5), (84, .bool false), (92, .bool true), (99, .bool false)] 146 [] (W) a w | 19 => SR [(0, .slice o l1 cap), (5, .int .i64 0), (6, .int .i64 5), (8, .int .i64 0), (9, .int .i64 5), (84, .bool false), (100, .bool false)] 146 [] (W) a w | _ => SR [(0, .slice o l1 cap), (5, .int .i64 0), (6, .int .i64 5), (8, .int .i64 0), (9, .int .i64 5), (101, .bool false)] 146 [] (W) a w) (show SR _ _ _ _ a W from h0) ⟨?_, ?_, ?_, ?_, ?_, ?_, ?_, ?_, ?_, ?_, ?_, ?_, ?_, ?_, ?_, ?_, ?_, ?_, ?_, ?_, trivial⟩ ?_
  · intro a w hI
    have hI : SR _ _ _ _ a w := hI
    have e5 := hI.g 5 rfl
    have hw : w = W := hI.wp
    subst hw
    go_simp
    exact hI.put (d := 82) (by decide) (by simp)
  · intro a w hI
    have hI : SR _ _ _ _ a w := hI
    have e82 := hI.g 82 rfl
    have hw : w = W := hI.wp
    subst hw
    go_simp
    exact hI.put (d := 83) (by decide) (by simp)
  · intro a w hI
    have hI : SR _ _ _ _ a w := hI
    have e83 := hI.g 83 rfl
    have hw : w = W := hI.wp
    subst hw
    go_simp
    exact hI.put (d := 84) (by decide) (by simp)
  · intro a w hI
    have hI : SR _ _ _ _ a w := hI
    have e6 := hI.g 6 rfl
    have e84 := hI.g 84 rfl
    have f84 := slot_bool e84
    have hw : w = W := hI.wp
    subst hw
    go_simp
    exact hI.put (d := 85) (by decide) (by simp)
  · intro a w hI
    have hI : SR _ _ _ _ a w := hI
    have e85 := hI.g 85 rfl
    have e84 := hI.g 84 rfl
    have f84 := slot_bool e84
    have hw : w = W := hI.wp
    subst hw
    go_simp
    exact hI.put (d := 86) (by decide) (by simp)
  · intro a w hI
    have hI : SR _ _ _ _ a w := hI
    have e86 := hI.g 86 rfl
    have e84 := hI.g 84 rfl
    have f84 := slot_bool e84
    have hw : w = W := hI.wp
    subst hw
    go_simp
    exact hI.put (d := 87) (by decide) (by simp)
  · intro a w hI
    have hI : SR _ _ _ _ a w := hI
    have e0 := hI.g 0 rfl
    have e87 := hI.g 87 rfl
    have f87 := slot_bool e87
    have hw : w = W := hI.wp
    subst hw
    go_simp
    exact hI.put (d := 88) (by decide) (by simp)
  · intro a w hI
    have hI : SR _ _ _ _ a w := hI
    have e88 := hI.g 88 rfl
    have e87 := hI.g 87 rfl
    have f87 := slot_bool e87
    have hw : w = W := hI.wp
    subst hw
    go_simp
    exact hI.put (d := 89) (by decide) (by simp)
  · intro a w hI
    have hI : SR _ _ _ _ a w := hI
    have e89 := hI.g 89 rfl
    have e87 := hI.g 87 rfl
    have f87 := slot_bool e87
    have hw : w = W := hI.wp
    subst hw
    go_simp
    exact hI.put (d := 90) (by decide) (by simp)
  · intro a w hI
    have hI : SR _ _ _ _ a w := hI
    have e87 := hI.g 87 rfl
    have e90 := hI.g 90 rfl
    have e84 := hI.g 84 rfl
    have f84 := slot_bool e84
    have hw : w = W := hI.wp
    subst hw
    go_simp
    exact hI.put (d := 91) (by decide) (by simp)
  · intro a w hI
    have hI : SR _ _ _ _ a w := hI
    have e91 := hI.g 91 rfl
    have e84 := hI.g 84 rfl
    have f84 := slot_bool e84
    have hw : w = W := hI.wp
    subst hw
    go_simp
    exact hI.put (d := 92) (by decide) (by simp)
  · intro a w hI
    have hI : SR _ _ _ _ a w := hI
    have e8 := hI.g 8 rfl
    have e92 := hI.g 92 rfl
    have f92 := slot_bool e92
    have hw : w = W := hI.wp
    subst hw
    go_simp
    exact hI.put (d := 93) (by decide) (by simp)
  · intro a w hI
    have hI : SR _ _ _ _ a w := hI
    have e93 := hI.g 93 rfl
    have e92 := hI.g 92 rfl
    have f92 := slot_bool e92
    have hw : w = W := hI.wp
    subst hw
    go_simp
    exact hI.put (d := 94) (by decide) (by simp)
  · intro a w hI
    have hI : SR _ _ _ _ a w := hI
    have e94 := hI.g 94 rfl
    have e92 := hI.g 92 rfl
    have f92 := slot_bool e92
    have hw : w = W := hI.wp
    subst hw
    go_simp
    exact hI.put (d := 95) (by decide) (by simp)
  · intro a w hI
    have hI : SR _ _ _ _ a w := hI
    have e9 := hI.g 9 rfl
    have e95 := hI.g 95 rfl
    have f95 := slot_bool e95
    have hw : w = W := hI.wp
    subst hw
    go_simp
    exact hI.put (d := 96) (by decide) (by simp)
  · intro a w hI
    have hI : SR _ _ _ _ a w := hI
    have e6 := hI.g 6 rfl
    have e95 := hI.g 95 rfl
    have f95 := slot_bool e95
    have hw : w = W := hI.wp
    subst hw
    go_simp
    exact hI.put (d := 97) (by decide) (by simp)
  · intro a w hI
    have hI : SR _ _ _ _ a w := hI
    have e96 := hI.g 96 rfl
    have e97 := hI.g 97 rfl
    have e95 := hI.g 95 rfl
    have f95 := slot_bool e95
    have hw : w = W := hI.wp
    subst hw
    go_simp
    exact hI.put (d := 98) (by decide) (by simp)
  · intro a w hI
    have hI : SR _ _ _ _ a w := hI
    have e95 := hI.g 95 rfl
    have e98 := hI.g 98 rfl
    have e92 := hI.g 92 rfl
    have f92 := slot_bool e92
    have hw : w = W := hI.wp
    subst hw
    go_simp
    exact hI.put (d := 99) (by decide) (by simp)
  · intro a w hI
    have hI : SR _ _ _ _ a w := hI
    have e92 := hI.g 92 rfl
    have e99 := hI.g 99 rfl
    have e84 := hI.g 84 rfl
    have f84 := slot_bool e84
    have hw : w = W := hI.wp
    subst hw
    go_simp
    exact hI.put (d := 100) (by decide) (by simp)
  · intro a w hI
    have hI : SR _ _ _ _ a w := hI
    have e84 := hI.g 84 rfl
    have e100 := hI.g 100 rfl
    have hw : w = W := hI.wp
    subst hw
    go_simp
    exact hI.put (d := 101) (by decide) (by simp)
  · intro a w hI
    have hI : SR _ _ _ _ a w := hI
    have hw : w = W := hI.wp
    subst hw
    exact hQ a hI
set_option maxRecDepth 100000 in
set_option maxHeartbeats 4000000 in
theorem fs13b (n : Nat) (W : World) (o : Option Addr) (cap : Nat) (mn me : Int) (Q : Exit → Act → World → Prop) (a : Act) (h0 : SR [(0, .slice o 0 cap), (5, .int .i64 0), (6, .int .i64 5), (8, .int .i64 mn), (9, .int .i64 me)] 146 [] W a W)
    (hQ : ∀ a, SR [(0, .slice o 0 cap), (5, .int .i64 0), (6, .int .i64 5), (8, .int .i64 mn), (9, .int .i64 me), (101, .bool false)] 146 [] (W) a (W) → Q .normal a (W)) : (regOf 13 C7).wpIn Fence.wide n Try.prog Q a W := by
  simp only [regOf, C7, Try.f7, Option.getD, Nat.reduceBEq, Bool.false_eq_true, if_true, if_false]
  refine region_sq (fun k_ a w => match k_ with | 0 => SR [(0, .slice o 0 cap), (5, .int .i64 0), (6, .int .i64 5), (8, .int .i64 mn), (9, .int .i64 me)] 146 [] (W) a w | 1 => SR [(0, .slice o 0 cap), (5, .int .i64 0), (6, .int .i64 5), (8, .int .i64 mn), (9, .int .i64 me), (82, .int .i64 0)] 146 [] (W) a w | 2 => SR [(0, .slice o 0 cap), (5, .int .i64 0), (6, .int .i64 5), (8, .int .i64 mn), (9, .int .i64 me), (83, .bool false)] 146 [] (W) a w | 3 => SR [(0, .slice o 0 cap), (5, .int .i64 0), (6, .int .i64 5), (8, .int .i64 mn), (9, .int .i64 me), (84, .bool false)] 146 [] (W) a w | 4 => SR [(0, .slice o 0 cap), (5, .int .i64 0), (6, .int .i64 5), (8, .int .i64 mn), (9, .int .i64 me), (84, .bool false), (85, .int .i64 5)] 146 [] (W) a w | 5 => SR [(0, .slice o 0 cap), (5, .int .i64 0), (6, .int .i64 5), (8, .int .i64 mn), (9, .int .i64 me), (84, .bool false), (86, .bool true)] 146 [] (W) a w | 6 => SR [(0, .slice o 0 cap), (5, .int .i64 0), (6, .int .i64 5), (8, .int .i64 mn), (9, .int .i64 me), (84, .bool false), (87, .bool true)] 146 [] (W) a w | 7 => SR [(0, .slice o 0 cap), (5, .int .i64 0), (6, .int .i64 5), (8, .int .i64 mn), (9, .int .i64 me), (84, .bool false), (87, .bool true), (88, .slice o 0 cap)] 146 [] (W) a w | 8 => SR [(0, .slice o 0 cap), (5, .int .i64 0), (6, .int .i64 5), (8, .int .i64 mn), (9, .int .i64 me), (84, .bool false), (87, .bool true), (89, .int .i64 0)] 146 [] (W) a w | 9 => SR [(0, .slice o 0 cap), (5, .int .i64 0), (6, .int .i64 5), (8, .int .i64 mn), (9, .int .i64 me), (84, .bool false), (87, .bool true), (90, .bool false)] 146 [] (W) a w | 10 => SR [(0, .slice o 0 cap), (5, .int .i64 0), (6, .int .i64 5), (8, .int .i64 mn), (9, .int .i64 me), (84, .bool false), (91, .bool false)] 146 [] (W) a w | 11 => SR [(0, .slice o 0 cap), (5, .int .i64 0), (6, .int .i64 5), (8, .int .i64 mn), (9, .int .i64 me), (84, .bool false), (92, .bool false)] 146 [] (W) a w | 12 => SR [(0, .slice o 0 cap), (5, .int .i64 0), (6, .int .i64 5), (8, .int .i64 mn), (9, .int .i64 me), (84, .bool false), (92, .bool false)] 146 [] (W) a w | 13 => SR [(0, .slice o 0 cap), (5, .int .i64 0), (6, .int .i64 5), (8, .int .i64 mn), (9, .int .i64 me), (84, .bool false), (92, .bool false)] 146 [] (W) a w | 14 => SR [(0, .slice o 0 cap), (5, .int .i64 0), (6, .int .i64 5), (8, .int .i64 mn), (9, .int .i64 me), (84, .bool false), (92, .bool false), (95, undef)] 146 [] (W) a w | 15 => SR [(0, .slice o 0 cap), (5, .int .i64 0), (6, .int .i64 5), (8, .int .i64 mn), (9, .int .i64 me), (84, .bool false), (92, .bool false), (95, undef)] 146 [] (W) a w | 16 => SR [(0, .slice o 0 cap), (5, .int .i64 0), (6, .int .i64 5), (8, .int .i64 mn), (9, .int .i64 me), (84, .bool false), (92, .bool false), (95, undef)] 146 [] (W) a w | 17 => SR [(0, .slice o 0 cap), (5, .int .i64 0), (6, .int .i64 5), (8, .int .i64 mn), (9, .int .i64 me), (84, .bool false), (92, .bool false)] 146 [] (W) a w | 18 => SR [(0, .slice o 0 cap), (5, .int .i64 0), (6, .int .i64 5), (8, .int .i64 mn), (9, .int .i64 me), (84, .bool false), (92, .bool false)] 146 [] (W) a w | 19 => SR [(0, .slice o 0 cap), (5, .int .i64 0), (6, .int .i64 5), (8, .int .i64 mn), (9, .int .i64 me), (84, .bool false), (100, .bool false)] 146 [] (W) a w | _ => SR [(0, .slice o 0 cap), (5, .int .i64 0), (6, .int .i64 5), (8, .int .i64 mn), (9, .int .i64 me), (101, .bool false)] 146 [] (W) a w) (show SR _ _ _ _ a W from h0) ⟨?_, ?_, ?_, ?_, ?_, ?_, ?_, ?_, ?_, ?_, ?_, ?_, ?_, ?_, ?_, ?_, ?_, ?_, ?_, ?_, trivial⟩ ?_
  · intro a w hI
    have hI : SR _ _ _ _ a w := hI
    have e5 := hI.g 5 rfl
    have hw : w = W := hI.wp
    subst hw
    go_simp
    exact hI.put (d := 82) (by decide) (by simp)
  · intro a w hI
    have hI : SR _ _ _ _ a w := hI
    have e82 := hI.g 82 rfl
    have hw : w = W := hI.wp
    subst hw
    go_simp
    exact hI.put (d := 83) (by decide) (by simp)
  · intro a w hI
    have hI : SR _ _ _ _ a w := hI
    have e83 := hI.g 83 rfl
    have hw : w = W := hI.wp
    subst hw
    go_simp
    exact hI.put (d := 84) (by decide) (by simp)
  · intro a w hI
    have hI : SR _ _ _ _ a w := hI
    have e6 := hI.g 6 rfl
    have e84 := hI.g 84 rfl
    have f84 := slot_bool e84
    have hw : w = W := hI.wp
    subst hw
    go_simp
    exact hI.put (d := 85) (by decide) (by simp)
  · intro a w hI
    have hI : SR _ _ _ _ a w := hI
    have e85 := hI.g 85 rfl
    have e84 := hI.g 84 rfl
    have f84 := slot_bool e84
    have hw : w = W := hI.wp
    subst hw
    go_simp
    exact hI.put (d := 86) (by decide) (by simp)
  · intro a w hI
    have hI : SR _ _ _ _ a w := hI
    have e86 := hI.g 86 rfl
    have e84 := hI.g 84 rfl
    have f84 := slot_bool e84
    have hw : w = W := hI.wp
    subst hw
    go_simp
    exact hI.put (d := 87) (by decide) (by simp)
  · intro a w hI
    have hI : SR _ _ _ _ a w := hI
    have e0 := hI.g 0 rfl
    have e87 := hI.g 87 rfl
    have f87 := slot_bool e87
    have hw : w = W := hI.wp
    subst hw
    go_simp
    exact hI.put (d := 88) (by decide) (by simp)
  · intro a w hI
    have hI : SR _ _ _ _ a w := hI
    have e88 := hI.g 88 rfl
    have e87 := hI.g 87 rfl
    have f87 := slot_bool e87
    have hw : w = W := hI.wp
    subst hw
    go_simp
    exact hI.put (d := 89) (by decide) (by simp)
  · intro a w hI
    have hI : SR _ _ _ _ a w := hI
    have e89 := hI.g 89 rfl
    have e87 := hI.g 87 rfl
    have f87 := slot_bool e87
    have hw : w = W := hI.wp
    subst hw
    go_simp
    exact hI.put (d := 90) (by decide) (by simp)
  · intro a w hI
    have hI : SR _ _ _ _ a w := hI
    have e87 := hI.g 87 rfl
    have e90 := hI.g 90 rfl
    have e84 := hI.g 84 rfl
    have f84 := slot_bool e84
    have hw : w = W := hI.wp
    subst hw
    go_simp
    exact hI.put (d := 91) (by decide) (by simp)
  · intro a w hI
    have hI : SR _ _ _ _ a w := hI
    have e91 := hI.g 91 rfl
    have e84 := hI.g 84 rfl
    have f84 := slot_bool e84
    have hw : w = W := hI.wp
    subst hw
    go_simp
    exact hI.put (d := 92) (by decide) (by simp)
  · intro a w hI
    have hI : SR _ _ _ _ a w := hI
    have e92 := hI.g 92 rfl
    have f92 := slot_bool e92
    have hw : w = W := hI.wp
    subst hw
    go_simp
    exact hI.put (d := 93) (by decide) (by simp)
  · intro a w hI
    have hI : SR _ _ _ _ a w := hI
    have e92 := hI.g 92 rfl
    have f92 := slot_bool e92
    have hw : w = W := hI.wp
    subst hw
    go_simp
    exact hI.put (d := 94) (by decide) (by simp)
  · intro a w hI
    have hI : SR _ _ _ _ a w := hI
    have e92 := hI.g 92 rfl
    have f92 := slot_bool e92
    have hw : w = W := hI.wp
    subst hw
    go_simp
    exact hI.put (d := 95) (by decide) (by simp)
  · intro a w hI
    have hI : SR _ _ _ _ a w := hI
    have e95 := hI.g 95 rfl
    have f95 := slot_undef e95 (by rw [hI.size]; decide)
    have hw : w = W := hI.wp
    subst hw
    go_simp
    exact hI.put (d := 96) (by decide) (by simp)
  · intro a w hI
    have hI : SR _ _ _ _ a w := hI
    have e95 := hI.g 95 rfl
    have f95 := slot_undef e95 (by rw [hI.size]; decide)
    have hw : w = W := hI.wp
    subst hw
    go_simp
    exact hI.put (d := 97) (by decide) (by simp)
  · intro a w hI
    have hI : SR _ _ _ _ a w := hI
    have e95 := hI.g 95 rfl
    have f95 := slot_undef e95 (by rw [hI.size]; decide)
    have hw : w = W := hI.wp
    subst hw
    go_simp
    exact hI.put (d := 98) (by decide) (by simp)
  · intro a w hI
    have hI : SR _ _ _ _ a w := hI
    have e92 := hI.g 92 rfl
    have f92 := slot_bool e92
    have hw : w = W := hI.wp
    subst hw
    go_simp
    exact hI.put (d := 99) (by decide) (by simp)
  · intro a w hI
    have hI : SR _ _ _ _ a w := hI
    have e92 := hI.g 92 rfl
    have e84 := hI.g 84 rfl
    have f84 := slot_bool e84
    have hw : w = W := hI.wp
    subst hw
    go_simp
    exact hI.put (d := 100) (by decide) (by simp)
  · intro a w hI
    have hI : SR _ _ _ _ a w := hI
    have e84 := hI.g 84 rfl
    have e100 := hI.g 100 rfl
    have hw : w = W := hI.wp
    subst hw
    go_simp
    exact hI.put (d := 101) (by decide) (by simp)
  · intro a w hI
    have hI : SR _ _ _ _ a w := hI
    have hw : w = W := hI.wp
    subst hw
    exact hQ a hI
set_option maxRecDepth 100000 in
set_option maxHeartbeats 4000000 in
theorem fs13c (n : Nat) (W : World) (o : Option Addr) (l1 cap : Nat) (mn me : Int) (Q : Exit → Act → World → Prop) (a : Act) (h0 : SR [(0, .slice o l1 cap), (5, .int .i64 0), (6, .int .i64 12), (8, .int .i64 mn), (9, .int .i64 me)] 146 [] W a W)
    (hQ : ∀ a, SR [(0, .slice o l1 cap), (5, .int .i64 0), (6, .int .i64 12), (8, .int .i64 mn), (9, .int .i64 me), (101, .bool false)] 146 [] (W) a (W) → Q .normal a (W)) : (regOf 13 C7).wpIn Fence.wide n Try.prog Q a W := by
  simp only [regOf, C7, Try.f7, Option.getD, Nat.reduceBEq, Bool.false_eq_true, if_true, if_false]
  refine region_sq (fun k_ a w => match k_ with | 0 => SR [(0, .slice o l1 cap), (5, .int .i64 0), (6, .int .i64 12), (8, .int .i64 mn), (9, .int .i64 me)] 146 [] (W) a w | 1 => SR [(0, .slice o l1 cap), (5, .int .i64 0), (6, .int .i64 12), (8, .int .i64 mn), (9, .int .i64 me), (82, .int .i64 0)] 146 [] (W) a w | 2 => SR [(0, .slice o l1 cap), (5, .int .i64 0), (6, .int .i64 12), (8, .int .i64 mn), (9, .int .i64 me), (83, .bool false)] 146 [] (W) a w | 3 => SR [(0, .slice o l1 cap), (5, .int .i64 0), (6, .int .i64 12), (8, .int .i64 mn), (9, .int .i64 me), (84, .bool false)] 146 [] (W) a w | 4 => SR [(0, .slice o l1 cap), (5, .int .i64 0), (6, .int .i64 12), (8, .int .i64 mn), (9, .int .i64 me), (84, .bool false), (85, .int .i64 12)] 146 [] (W) a w | 5 => SR [(0, .slice o l1 cap), (5, .int .i64 0), (6, .int .i64 12), (8, .int .i64 mn), (9, .int .i64 me), (84, .bool false), (86, .bool false)] 146 [] (W) a w | 6 => SR [(0, .slice o l1 cap), (5, .int .i64 0), (6, .int .i64 12), (8, .int .i64 mn), (9, .int .i64 me), (84, .bool false), (87, .bool false)] 146 [] (W) a w | 7 => SR [(0, .slice o l1 cap), (5, .int .i64 0), (6, .int .i64 12), (8, .int .i64 mn), (9, .int .i64 me), (84, .bool false), (87, .bool false)] 146 [] (W) a w | 8 => SR [(0, .slice o l1 cap), (5, .int .i64 0), (6, .int .i64 12), (8, .int .i64 mn), (9, .int .i64 me), (84, .bool false), (87, .bool false)] 146 [] (W) a w | 9 => SR [(0, .slice o l1 cap), (5, .int .i64 0), (6, .int .i64 12), (8, .int .i64 mn), (9, .int .i64 me), (84, .bool false), (87, .bool false)] 146 [] (W) a w | 10 => SR [(0, .slice o l1 cap), (5, .int .i64 0), (6, .int .i64 12), (8, .int .i64 mn), (9, .int .i64 me), (84, .bool false), (91, .bool false)] 146 [] (W) a w | 11 => SR [(0, .slice o l1 cap), (5, .int .i64 0), (6, .int .i64 12), (8, .int .i64 mn), (9, .int .i64 me), (84, .bool false), (92, .bool false)] 146 [] (W) a w | 12 => SR [(0, .slice o l1 cap), (5, .int .i64 0), (6, .int .i64 12), (8, .int .i64 mn), (9, .int .i64 me), (84, .bool false), (92, .bool false)] 146 [] (W) a w | 13 => SR [(0, .slice o l1 cap), (5, .int .i64 0), (6, .int .i64 12), (8, .int .i64 mn), (9, .int .i64 me), (84, .bool false), (92, .bool false)] 146 [] (W) a w | 14 => SR [(0, .slice o l1 cap), (5, .int .i64 0), (6, .int .i64 12), (8, .int .i64 mn), (9, .int .i64 me), (84, .bool false), (92, .bool false), (95, undef)] 146 [] (W) a w | 15 => SR [(0, .slice o l1 cap), (5, .int .i64 0), (6, .int .i64 12), (8, .int .i64 mn), (9, .int .i64 me), (84, .bool false), (92, .bool false), (95, undef)] 146 [] (W) a w | 16 => SR [(0, .slice o l1 cap), (5, .int .i64 0), (6, .int .i64 12), (8, .int .i64 mn), (9, .int .i64 me), (84, .bool false), (92, .bool false), (95, undef)] 146 [] (W) a w | 17 => SR [(0, .slice o l1 cap), (5, .int .i64 0), (6, .int .i64 12), (8, .int .i64 mn), (9, .int .i64 me), (84, .bool false), (92, .bool false)] 146 [] (W) a w | 18 => SR [(0, .slice o l1 cap), (5, .int .i64 0), (6, .int .i64 12), (8, .int .i64 mn), (9, .int .i64 me), (84, .bool false), (92, .bool false)] 146 [] (W) a w | 19 => SR [(0, .slice o l1 cap), (5, .int .i64 0), (6, .int .i64 12), (8, .int .i64 mn), (9, .int .i64 me), (84, .bool false), (100, .bool false)] 146 [] (W) a w | _ => SR [(0, .slice o l1 cap), (5, .int .i64 0), (6, .int .i64 12), (8, .int .i64 mn), (9, .int .i64 me), (101, .bool false)] 146 [] (W) a w) (show SR _ _ _ _ a W from h0) ⟨?_, ?_, ?_, ?_, ?_, ?_, ?_, ?_, ?_, ?_, ?_, ?_, ?_, ?_, ?_, ?_, ?_, ?_, ?_, ?_, trivial⟩ ?_
  · intro a w hI
    have hI : SR _ _ _ _ a w := hI
    have e5 := hI.g 5 rfl
    have hw : w = W := hI.wp
    subst hw
    go_simp
    exact hI.put (d := 82) (by decide) (by simp)
  · intro a w hI
    have hI : SR _ _ _ _ a w := hI
    have e82 := hI.g 82 rfl
    have hw : w = W := hI.wp
    subst hw
    go_simp
    exact hI.put (d := 83) (by decide) (by simp)
  · intro a w hI
    have hI : SR _ _ _ _ a w := hI
    have e83 := hI.g 83 rfl
    have hw : w = W := hI.wp
    subst hw
    go_simp
    exact hI.put (d := 84) (by decide) (by simp)
  · intro a w hI
    have hI : SR _ _ _ _ a w := hI
    have e6 := hI.g 6 rfl
    have e84 := hI.g 84 rfl
    have f84 := slot_bool e84
    have hw : w = W := hI.wp
    subst hw
    go_simp
    exact hI.put (d := 85) (by decide) (by simp)
  · intro a w hI
    have hI : SR _ _ _ _ a w := hI
    have e85 := hI.g 85 rfl
    have e84 := hI.g 84 rfl
    have f84 := slot_bool e84
    have hw : w = W := hI.wp
    subst hw
    go_simp
    exact hI.put (d := 86) (by decide) (by simp)
  · intro a w hI
    have hI : SR _ _ _ _ a w := hI
    have e86 := hI.g 86 rfl
    have e84 := hI.g 84 rfl
    have f84 := slot_bool e84
    have hw : w = W := hI.wp
    subst hw
    go_simp
    exact hI.put (d := 87) (by decide) (by simp)
  · intro a w hI
    have hI : SR _ _ _ _ a w := hI
    have e87 := hI.g 87 rfl
    have f87 := slot_bool e87
    have hw : w = W := hI.wp
    subst hw
    go_simp
    exact hI.put (d := 88) (by decide) (by simp)
  · intro a w hI
    have hI : SR _ _ _ _ a w := hI
    have e87 := hI.g 87 rfl
    have f87 := slot_bool e87
    have hw : w = W := hI.wp
    subst hw
    go_simp
    exact hI.put (d := 89) (by decide) (by simp)
  · intro a w hI
    have hI : SR _ _ _ _ a w := hI
    have e87 := hI.g 87 rfl
    have f87 := slot_bool e87
    have hw : w = W := hI.wp
    subst hw
    go_simp
    exact hI.put (d := 90) (by decide) (by simp)
  · intro a w hI
    have hI : SR _ _ _ _ a w := hI
    have e87 := hI.g 87 rfl
    have e84 := hI.g 84 rfl
    have f84 := slot_bool e84
    have hw : w = W := hI.wp
    subst hw
    go_simp
    exact hI.put (d := 91) (by decide) (by simp)
  · intro a w hI
    have hI : SR _ _ _ _ a w := hI
    have e91 := hI.g 91 rfl
    have e84 := hI.g 84 rfl
    have f84 := slot_bool e84
    have hw : w = W := hI.wp
    subst hw
    go_simp
    exact hI.put (d := 92) (by decide) (by simp)
  · intro a w hI
    have hI : SR _ _ _ _ a w := hI
    have e92 := hI.g 92 rfl
    have f92 := slot_bool e92
    have hw : w = W := hI.wp
    subst hw
    go_simp
    exact hI.put (d := 93) (by decide) (by simp)
  · intro a w hI
    have hI : SR _ _ _ _ a w := hI
    have e92 := hI.g 92 rfl
    have f92 := slot_bool e92
    have hw : w = W := hI.wp
    subst hw
    go_simp
    exact hI.put (d := 94) (by decide) (by simp)
  · intro a w hI
    have hI : SR _ _ _ _ a w := hI
    have e92 := hI.g 92 rfl
    have f92 := slot_bool e92
    have hw : w = W := hI.wp
    subst hw
    go_simp
    exact hI.put (d := 95) (by decide) (by simp)
  · intro a w hI
    have hI : SR _ _ _ _ a w := hI
    have e95 := hI.g 95 rfl
    have f95 := slot_undef e95 (by rw [hI.size]; decide)
    have hw : w = W := hI.wp
    subst hw
    go_simp
    exact hI.put (d := 96) (by decide) (by simp)
  · intro a w hI
    have hI : SR _ _ _ _ a w := hI
    have e95 := hI.g 95 rfl
    have f95 := slot_undef e95 (by rw [hI.size]; decide)
    have hw : w = W := hI.wp
    subst hw
    go_simp
    exact hI.put (d := 97) (by decide) (by simp)
  · intro a w hI
    have hI : SR _ _ _ _ a w := hI
    have e95 := hI.g 95 rfl
    have f95 := slot_undef e95 (by rw [hI.size]; decide)
    have hw : w = W := hI.wp
    subst hw
    go_simp
    exact hI.put (d := 98) (by decide) (by simp)
  · intro a w hI
    have hI : SR _ _ _ _ a w := hI
    have e92 := hI.g 92 rfl
    have f92 := slot_bool e92
    have hw : w = W := hI.wp
    subst hw
    go_simp
    exact hI.put (d := 99) (by decide) (by simp)
  · intro a w hI
    have hI : SR _ _ _ _ a w := hI
    have e92 := hI.g 92 rfl
    have e84 := hI.g 84 rfl
    have f84 := slot_bool e84
    have hw : w = W := hI.wp
    subst hw
    go_simp
    exact hI.put (d := 100) (by decide) (by simp)
  · intro a w hI
    have hI : SR _ _ _ _ a w := hI
    have e84 := hI.g 84 rfl
    have e100 := hI.g 100 rfl
    have hw : w = W := hI.wp
    subst hw
    go_simp
    exact hI.put (d := 101) (by decide) (by simp)
  · intro a w hI
    have hI : SR _ _ _ _ a w := hI
    have hw : w = W := hI.wp
    subst hw
    exact hQ a hI
set_option maxRecDepth 100000 in
set_option maxHeartbeats 4000000 in
theorem fs15 (n : Nat) (W : World) (o : Option Addr) (l1 cap : Nat) (re mn me : Int)  (Q : Exit → Act → World → Prop) (a : Act) (h0 : SR [(0, .slice o l1 cap), (6, .int .i64 re), (8, .int .i64 mn), (9, .int .i64 me)] 146 [] W a W)
    (hQ : ∀ a, SR [(0, .slice o l1 cap), (6, .int .i64 re), (8, .int .i64 mn), (9, .int .i64 me), (11, .bool true)] 146 [] (W) a (W) → Q .normal a (W)) : (regOf 15 C7).wpIn Fence.wide n Try.prog Q a W := by
  simp only [regOf, C7, Try.f7, Option.getD, Nat.reduceBEq, Bool.false_eq_true, if_true, if_false]
  refine region_sq (fun k_ a w => match k_ with | 0 => SR [(0, .slice o l1 cap), (6, .int .i64 re), (8, .int .i64 mn), (9, .int .i64 me)] 146 [] (W) a w | _ => SR [(0, .slice o l1 cap), (6, .int .i64 re), (8, .int .i64 mn), (9, .int .i64 me), (11, .bool true)] 146 [] (W) a w) (show SR _ _ _ _ a W from h0) ⟨?_, trivial⟩ ?_
  · intro a w hI
    have hI : SR _ _ _ _ a w := hI
    have hw : w = W := hI.wp
    subst hw
    go_simp
    exact hI.put (d := 11) (by decide) (by simp)
  · intro a w hI
    have hI : SR _ _ _ _ a w := hI
    have hw : w = W := hI.wp
    subst hw
    exact hQ a hI
set_option maxRecDepth 100000 in
set_option maxHeartbeats 4000000 in
theorem fs16 (n : Nat) (W : World) (o : Option Addr) (l1 cap : Nat) (re mn me : Int)  (Q : Exit → Act → World → Prop) (a : Act) (h0 : SR [(0, .slice o l1 cap), (6, .int .i64 re), (8, .int .i64 mn), (9, .int .i64 me), (11, .bool true)] 146 [] W a W)
    (hQ : ∀ a, SR [(0, .slice o l1 cap), (6, .int .i64 re), (8, .int .i64 mn), (9, .int .i64 me), (11, .bool true), (12, .int .i64 0)] 146 [] (W) a (W) → Q .normal a (W)) : (regOf 16 C7).wpIn Fence.wide n Try.prog Q a W := by
  simp only [regOf, C7, Try.f7, Option.getD, Nat.reduceBEq, Bool.false_eq_true, if_true, if_false]
  refine region_sq (fun k_ a w => match k_ with | 0 => SR [(0, .slice o l1 cap), (6, .int .i64 re), (8, .int .i64 mn), (9, .int .i64 me), (11, .bool true)] 146 [] (W) a w | _ => SR [(0, .slice o l1 cap), (6, .int .i64 re), (8, .int .i64 mn), (9, .int .i64 me), (11, .bool true), (12, .int .i64 0)] 146 [] (W) a w) (show SR _ _ _ _ a W from h0) ⟨?_, trivial⟩ ?_
  · intro a w hI
    have hI : SR _ _ _ _ a w := hI
    have hw : w = W := hI.wp
    subst hw
    go_simp
    exact hI.put (d := 12) (by decide) (by simp)
  · intro a w hI
    have hI : SR _ _ _ _ a w := hI
    have hw : w = W := hI.wp
    subst hw
    exact hQ a hI
set_option maxRecDepth 100000 in
set_option maxHeartbeats 4000000 in
theorem fs17 (n : Nat) (W : World) (o : Option Addr) (l1 cap : Nat) (re mn me : Int) (b : Bool) (i : Nat) (Q : Exit → Act → World → Prop) (a : Act) (h0 : SR [(0, .slice o l1 cap), (6, .int .i64 re), (8, .int .i64 mn), (9, .int .i64 me), (11, .bool b), (12, .int .i64 i)] 146 [] W a W)
    (hQ : ∀ a, SR [(0, .slice o l1 cap), (6, .int .i64 re), (8, .int .i64 mn), (9, .int .i64 me), (11, .bool b), (12, .int .i64 i), (103, .bool (decide ((i : Int) < 9)))] 146 [] (W) a (W) → Q .normal a (W)) : (regOf 17 C7).wpIn Fence.wide n Try.prog Q a W := by
  simp only [regOf, C7, Try.f7, Option.getD, Nat.reduceBEq, Bool.false_eq_true, if_true, if_false]
  refine region_sq (fun k_ a w => match k_ with | 0 => SR [(0, .slice o l1 cap), (6, .int .i64 re), (8, .int .i64 mn), (9, .int .i64 me), (11, .bool b), (12, .int .i64 i)] 146 [] (W) a w | 1 => SR [(0, .slice o l1 cap), (6, .int .i64 re), (8, .int .i64 mn), (9, .int .i64 me), (11, .bool b), (12, .int .i64 i), (102, .int .i64 i)] 146 [] (W) a w | _ => SR [(0, .slice o l1 cap), (6, .int .i64 re), (8, .int .i64 mn), (9, .int .i64 me), (11, .bool b), (12, .int .i64 i), (103, .bool (decide ((i : Int) < 9)))] 146 [] (W) a w) (show SR _ _ _ _ a W from h0) ⟨?_, ?_, trivial⟩ ?_
  · intro a w hI
    have hI : SR _ _ _ _ a w := hI
    have e12 := hI.g 12 rfl
    have hw : w = W := hI.wp
    subst hw
    go_simp
    exact hI.put (d := 102) (by decide) (by simp)
  · intro a w hI
    have hI : SR _ _ _ _ a w := hI
    have e102 := hI.g 102 rfl
    have hw : w = W := hI.wp
    subst hw
    go_simp
    exact hI.put (d := 103) (by decide) (by simp)
  · intro a w hI
    have hI : SR _ _ _ _ a w := hI
    have hw : w = W := hI.wp
    subst hw
    exact hQ a hI
set_option maxRecDepth 100000 in
set_option maxHeartbeats 4000000 in
theorem fs18 (n : Nat) (W : World) (o : Option Addr) (l1 cap : Nat) (re mn me : Int) (b : Bool) (i : Nat) (hi : i < 9000000000) (Q : Exit → Act → World → Prop) (a : Act) (h0 : SR [(0, .slice o l1 cap), (6, .int .i64 re), (8, .int .i64 mn), (9, .int .i64 me), (11, .bool b), (12, .int .i64 i)] 146 [] W a W)
    (hQ : ∀ a, SR [(0, .slice o l1 cap), (6, .int .i64 re), (8, .int .i64 mn), (9, .int .i64 me), (11, .bool b), (12, .int .i64 ((i : Int) + 1))] 146 [] (W) a (W) → Q .normal a (W)) : (regOf 18 C7).wpIn Fence.wide n Try.prog Q a W := by
  simp only [regOf, C7, Try.f7, Option.getD, Nat.reduceBEq, Bool.false_eq_true, if_true, if_false]
  refine region_sq (fun k_ a w => match k_ with | 0 => SR [(0, .slice o l1 cap), (6, .int .i64 re), (8, .int .i64 mn), (9, .int .i64 me), (11, .bool b), (12, .int .i64 i)] 146 [] (W) a w | 1 => SR [(0, .slice o l1 cap), (6, .int .i64 re), (8, .int .i64 mn), (9, .int .i64 me), (11, .bool b), (104, .int .i64 i)] 146 [] (W) a w | 2 => SR [(0, .slice o l1 cap), (6, .int .i64 re), (8, .int .i64 mn), (9, .int .i64 me), (11, .bool b), (105, .int .i64 ((i : Int) + 1))] 146 [] (W) a w | _ => SR [(0, .slice o l1 cap), (6, .int .i64 re), (8, .int .i64 mn), (9, .int .i64 me), (11, .bool b), (12, .int .i64 ((i : Int) + 1))] 146 [] (W) a w) (show SR _ _ _ _ a W from h0) ⟨?_, ?_, ?_, trivial⟩ ?_
  · intro a w hI
    have hI : SR _ _ _ _ a w := hI
    have e12 := hI.g 12 rfl
    have hw : w = W := hI.wp
    subst hw
    go_simp
    exact hI.put (d := 104) (by decide) (by simp)
  · intro a w hI
    have hI : SR _ _ _ _ a w := hI
    have e104 := hI.g 104 rfl
    have hw : w = W := hI.wp
    subst hw
    have hw1 : IntKind.i64.wrap ((i : Int) + 1) = (i : Int) + 1 := IntWalk.i64_in _ (by omega)
    go_simp
    exact hI.put (d := 105) (by decide) (by simp)
  · intro a w hI
    have hI : SR _ _ _ _ a w := hI
    have e105 := hI.g 105 rfl
    have hw : w = W := hI.wp
    subst hw
    go_simp
    exact hI.put (d := 12) (by decide) (by simp)
  · intro a w hI
    have hI : SR _ _ _ _ a w := hI
    have hw : w = W := hI.wp
    subst hw
    exact hQ a hI
set_option maxRecDepth 100000 in
set_option maxHeartbeats 4000000 in
theorem fs19f (n : Nat) {G : World → Prop} (hS : Stable G) (o : Option Addr) (l1 cap : Nat) (re mn me : Int) (i : Nat) (Q : Exit → Act → World → Prop) (a : Act) (w : World) (h0 : SG [(0, .slice o l1 cap), (6, .int .i64 re), (8, .int .i64 mn), (9, .int .i64 me), (11, .bool false), (12, .int .i64 i)] 146 G a w)
    (hQ : ∀ a w, SG [(0, .slice o l1 cap), (6, .int .i64 re), (8, .int .i64 mn), (9, .int .i64 me), (12, .int .i64 i), (11, .bool false)] 146 G a w → Q .normal a w) : (regOf 19 C7).wpIn Fence.wide n Try.prog Q a w := by
  simp only [regOf, C7, Try.f7, Option.getD, Nat.reduceBEq, Bool.false_eq_true, if_true, if_false]
  refine region_sq (fun k_ a w => match k_ with | 0 => SG [(0, .slice o l1 cap), (6, .int .i64 re), (8, .int .i64 mn), (9, .int .i64 me), (11, .bool false), (12, .int .i64 i)] 146 G a w | 1 => SG [(0, .slice o l1 cap), (6, .int .i64 re), (8, .int .i64 mn), (9, .int .i64 me), (12, .int .i64 i), (106, .bool false)] 146 G a w | 2 => SG [(0, .slice o l1 cap), (6, .int .i64 re), (8, .int .i64 mn), (9, .int .i64 me), (12, .int .i64 i), (107, .bool false)] 146 G a w | 3 => SG [(0, .slice o l1 cap), (6, .int .i64 re), (8, .int .i64 mn), (9, .int .i64 me), (12, .int .i64 i), (107, .bool false)] 146 G a w | 4 => SG [(0, .slice o l1 cap), (6, .int .i64 re), (8, .int .i64 mn), (9, .int .i64 me), (12, .int .i64 i), (107, .bool false)] 146 G a w | 5 => SG [(0, .slice o l1 cap), (6, .int .i64 re), (8, .int .i64 mn), (9, .int .i64 me), (12, .int .i64 i), (107, .bool false)] 146 G a w | 6 => SG [(0, .slice o l1 cap), (6, .int .i64 re), (8, .int .i64 mn), (9, .int .i64 me), (12, .int .i64 i), (107, .bool false)] 146 G a w | 7 => SG [(0, .slice o l1 cap), (6, .int .i64 re), (8, .int .i64 mn), (9, .int .i64 me), (12, .int .i64 i), (112, .bool false)] 146 G a w | 8 => SG [(0, .slice o l1 cap), (6, .int .i64 re), (8, .int .i64 mn), (9, .int .i64 me), (12, .int .i64 i), (113, .bool false)] 146 G a w | 9 => SG [(0, .slice o l1 cap), (6, .int .i64 re), (8, .int .i64 mn), (9, .int .i64 me), (12, .int .i64 i), (113, .bool false)] 146 G a w | 10 => SG [(0, .slice o l1 cap), (6, .int .i64 re), (8, .int .i64 mn), (9, .int .i64 me), (12, .int .i64 i), (113, .bool false)] 146 G a w | 11 => SG [(0, .slice o l1 cap), (6, .int .i64 re), (8, .int .i64 mn), (9, .int .i64 me), (12, .int .i64 i), (113, .bool false)] 146 G a w | 12 => SG [(0, .slice o l1 cap), (6, .int .i64 re), (8, .int .i64 mn), (9, .int .i64 me), (12, .int .i64 i), (113, .bool false)] 146 G a w | 13 => SG [(0, .slice o l1 cap), (6, .int .i64 re), (8, .int .i64 mn), (9, .int .i64 me), (12, .int .i64 i), (113, .bool false)] 146 G a w | 14 => SG [(0, .slice o l1 cap), (6, .int .i64 re), (8, .int .i64 mn), (9, .int .i64 me), (12, .int .i64 i), (119, .bool false)] 146 G a w | 15 => SG [(0, .slice o l1 cap), (6, .int .i64 re), (8, .int .i64 mn), (9, .int .i64 me), (12, .int .i64 i), (120, .bool false)] 146 G a w | 16 => SG [(0, .slice o l1 cap), (6, .int .i64 re), (8, .int .i64 mn), (9, .int .i64 me), (12, .int .i64 i), (120, .bool false)] 146 G a w | 17 => SG [(0, .slice o l1 cap), (6, .int .i64 re), (8, .int .i64 mn), (9, .int .i64 me), (12, .int .i64 i), (120, .bool false)] 146 G a w | 18 => SG [(0, .slice o l1 cap), (6, .int .i64 re), (8, .int .i64 mn), (9, .int .i64 me), (12, .int .i64 i), (120, .bool false)] 146 G a w | 19 => SG [(0, .slice o l1 cap), (6, .int .i64 re), (8, .int .i64 mn), (9, .int .i64 me), (12, .int .i64 i), (120, .bool false)] 146 G a w | 20 => SG [(0, .slice o l1 cap), (6, .int .i64 re), (8, .int .i64 mn), (9, .int .i64 me), (12, .int .i64 i), (120, .bool false)] 146 G a w | 21 => SG [(0, .slice o l1 cap), (6, .int .i64 re), (8, .int .i64 mn), (9, .int .i64 me), (12, .int .i64 i), (120, .bool false)] 146 G a w | 22 => SG [(0, .slice o l1 cap), (6, .int .i64 re), (8, .int .i64 mn), (9, .int .i64 me), (12, .int .i64 i), (127, .bool false)] 146 G a w | _ => SG [(0, .slice o l1 cap), (6, .int .i64 re), (8, .int .i64 mn), (9, .int .i64 me), (12, .int .i64 i), (11, .bool false)] 146 G a w) (show SG _ _ G a w from h0) ⟨?_, ?_, ?_, ?_, ?_, ?_, ?_, ?_, ?_, ?_, ?_, ?_, ?_, ?_, ?_, ?_, ?_, ?_, ?_, ?_, ?_, ?_, ?_, trivial⟩ ?_
  · intro a w hI
    have hI : SG _ _ G a w := hI
    have e11 := hI.g 11 rfl
    go_simp
    exact hI.put (d := 106) (by decide) (by simp) hI.wp
  · intro a w hI
    have hI : SG _ _ G a w := hI
    have e106 := hI.g 106 rfl
    go_simp
    exact hI.put (d := 107) (by decide) (by simp) hI.wp
  · intro a w hI
    have hI : SG _ _ G a w := hI
    have e107 := hI.g 107 rfl
    have f107 := slot_bool e107
    go_simp
    exact hI.put (d := 108) (by decide) (by simp) hI.wp
  · intro a w hI
    have hI : SG _ _ G a w := hI
    have e107 := hI.g 107 rfl
    have f107 := slot_bool e107
    go_simp
    exact hI.put (d := 109) (by decide) (by simp) hI.wp
  · intro a w hI
    have hI : SG _ _ G a w := hI
    have e107 := hI.g 107 rfl
    have f107 := slot_bool e107
    go_simp
    exact hI.put (d := 110) (by decide) (by simp) hI.wp
  · intro a w hI
    have hI : SG _ _ G a w := hI
    have e107 := hI.g 107 rfl
    have f107 := slot_bool e107
    go_simp
    exact hI.put (d := 111) (by decide) (by simp) hI.wp
  · intro a w hI
    have hI : SG _ _ G a w := hI
    have e107 := hI.g 107 rfl
    go_simp
    exact hI.put (d := 112) (by decide) (by simp) hI.wp
  · intro a w hI
    have hI : SG _ _ G a w := hI
    have e112 := hI.g 112 rfl
    go_simp
    exact hI.put (d := 113) (by decide) (by simp) hI.wp
  · intro a w hI
    have hI : SG _ _ G a w := hI
    have e113 := hI.g 113 rfl
    have f113 := slot_bool e113
    go_simp
    exact hI.put (d := 114) (by decide) (by simp) hI.wp
  · intro a w hI
    have hI : SG _ _ G a w := hI
    have e113 := hI.g 113 rfl
    have f113 := slot_bool e113
    go_simp
    exact hI.put (d := 115) (by decide) (by simp) hI.wp
  · intro a w hI
    have hI : SG _ _ G a w := hI
    have e113 := hI.g 113 rfl
    have f113 := slot_bool e113
    go_simp
    exact hI.put (d := 116) (by decide) (by simp) hI.wp
  · intro a w hI
    have hI : SG _ _ G a w := hI
    have e113 := hI.g 113 rfl
    have f113 := slot_bool e113
    go_simp
    exact hI.put (d := 117) (by decide) (by simp) hI.wp
  · intro a w hI
    have hI : SG _ _ G a w := hI
    have e113 := hI.g 113 rfl
    have f113 := slot_bool e113
    go_simp
    refine ⟨trivial, ?_⟩
    exact hI.put (d := 118) (by decide) (by simp) hI.wp
  · intro a w hI
    have hI : SG _ _ G a w := hI
    have e113 := hI.g 113 rfl
    go_simp
    exact hI.put (d := 119) (by decide) (by simp) hI.wp
  · intro a w hI
    have hI : SG _ _ G a w := hI
    have e119 := hI.g 119 rfl
    go_simp
    exact hI.put (d := 120) (by decide) (by simp) hI.wp
  · intro a w hI
    have hI : SG _ _ G a w := hI
    have e120 := hI.g 120 rfl
    have f120 := slot_bool e120
    go_simp
    exact hI.put (d := 121) (by decide) (by simp) hI.wp
  · intro a w hI
    have hI : SG _ _ G a w := hI
    have e120 := hI.g 120 rfl
    have f120 := slot_bool e120
    go_simp
    exact hI.put (d := 122) (by decide) (by simp) hI.wp
  · intro a w hI
    have hI : SG _ _ G a w := hI
    have e120 := hI.g 120 rfl
    have f120 := slot_bool e120
    go_simp
    exact hI.put (d := 123) (by decide) (by simp) hI.wp
  · intro a w hI
    have hI : SG _ _ G a w := hI
    have e120 := hI.g 120 rfl
    have f120 := slot_bool e120
    go_simp
    exact hI.put (d := 124) (by decide) (by simp) hI.wp
  · intro a w hI
    have hI : SG _ _ G a w := hI
    have e120 := hI.g 120 rfl
    have f120 := slot_bool e120
    go_simp
    exact hI.put (d := 125) (by decide) (by simp) hI.wp
  · intro a w hI
    have hI : SG _ _ G a w := hI
    have e120 := hI.g 120 rfl
    have f120 := slot_bool e120
    go_simp
    refine ⟨trivial, ?_⟩
    exact hI.put (d := 126) (by decide) (by simp) hI.wp
  · intro a w hI
    have hI : SG _ _ G a w := hI
    have e120 := hI.g 120 rfl
    go_simp
    exact hI.put (d := 127) (by decide) (by simp) hI.wp
  · intro a w hI
    have hI : SG _ _ G a w := hI
    have e127 := hI.g 127 rfl
    go_simp
    exact hI.put (d := 11) (by decide) (by simp) hI.wp
  · intro a w hI
    have hI : SG _ _ G a w := hI
    exact hQ a w hI
set_option maxRecDepth 100000 in
set_option maxHeartbeats 4000000 in
theorem fs19l (n : Nat) {G : World → Prop} (hS : Stable G) (o : Option Addr) (l1 cap : Nat) (re mn me : Int) (i : Nat) (h : ¬ i < l1) (Q : Exit → Act → World → Prop) (a : Act) (w : World) (h0 : SG [(0, .slice o l1 cap), (6, .int .i64 re), (8, .int .i64 mn), (9, .int .i64 me), (11, .bool true), (12, .int .i64 i)] 146 G a w)
    (hQ : ∀ a w, SG [(0, .slice o l1 cap), (6, .int .i64 re), (8, .int .i64 mn), (9, .int .i64 me), (12, .int .i64 i), (11, .bool false)] 146 G a w → Q .normal a w) : (regOf 19 C7).wpIn Fence.wide n Try.prog Q a w := by
  simp only [regOf, C7, Try.f7, Option.getD, Nat.reduceBEq, Bool.false_eq_true, if_true, if_false]
  refine region_sq (fun k_ a w => match k_ with | 0 => SG [(0, .slice o l1 cap), (6, .int .i64 re), (8, .int .i64 mn), (9, .int .i64 me), (11, .bool true), (12, .int .i64 i)] 146 G a w | 1 => SG [(0, .slice o l1 cap), (6, .int .i64 re), (8, .int .i64 mn), (9, .int .i64 me), (12, .int .i64 i), (106, .bool true)] 146 G a w | 2 => SG [(0, .slice o l1 cap), (6, .int .i64 re), (8, .int .i64 mn), (9, .int .i64 me), (12, .int .i64 i), (107, .bool true)] 146 G a w | 3 => SG [(0, .slice o l1 cap), (6, .int .i64 re), (8, .int .i64 mn), (9, .int .i64 me), (12, .int .i64 i), (107, .bool true), (108, .int .i64 i)] 146 G a w | 4 => SG [(0, .slice o l1 cap), (6, .int .i64 re), (8, .int .i64 mn), (9, .int .i64 me), (12, .int .i64 i), (107, .bool true), (108, .int .i64 i), (109, .slice o l1 cap)] 146 G a w | 5 => SG [(0, .slice o l1 cap), (6, .int .i64 re), (8, .int .i64 mn), (9, .int .i64 me), (12, .int .i64 i), (107, .bool true), (108, .int .i64 i), (110, .int .i64 l1)] 146 G a w | 6 => SG [(0, .slice o l1 cap), (6, .int .i64 re), (8, .int .i64 mn), (9, .int .i64 me), (12, .int .i64 i), (107, .bool true), (111, .bool false)] 146 G a w | 7 => SG [(0, .slice o l1 cap), (6, .int .i64 re), (8, .int .i64 mn), (9, .int .i64 me), (12, .int .i64 i), (112, .bool false)] 146 G a w | 8 => SG [(0, .slice o l1 cap), (6, .int .i64 re), (8, .int .i64 mn), (9, .int .i64 me), (12, .int .i64 i), (113, .bool false)] 146 G a w | 9 => SG [(0, .slice o l1 cap), (6, .int .i64 re), (8, .int .i64 mn), (9, .int .i64 me), (12, .int .i64 i), (113, .bool false)] 146 G a w | 10 => SG [(0, .slice o l1 cap), (6, .int .i64 re), (8, .int .i64 mn), (9, .int .i64 me), (12, .int .i64 i), (113, .bool false)] 146 G a w | 11 => SG [(0, .slice o l1 cap), (6, .int .i64 re), (8, .int .i64 mn), (9, .int .i64 me), (12, .int .i64 i), (113, .bool false)] 146 G a w | 12 => SG [(0, .slice o l1 cap), (6, .int .i64 re), (8, .int .i64 mn), (9, .int .i64 me), (12, .int .i64 i), (113, .bool false)] 146 G a w | 13 => SG [(0, .slice o l1 cap), (6, .int .i64 re), (8, .int .i64 mn), (9, .int .i64 me), (12, .int .i64 i), (113, .bool false)] 146 G a w | 14 => SG [(0, .slice o l1 cap), (6, .int .i64 re), (8, .int .i64 mn), (9, .int .i64 me), (12, .int .i64 i), (119, .bool false)] 146 G a w | 15 => SG [(0, .slice o l1 cap), (6, .int .i64 re), (8, .int .i64 mn), (9, .int .i64 me), (12, .int .i64 i), (120, .bool false)] 146 G a w | 16 => SG [(0, .slice o l1 cap), (6, .int .i64 re), (8, .int .i64 mn), (9, .int .i64 me), (12, .int .i64 i), (120, .bool false)] 146 G a w | 17 => SG [(0, .slice o l1 cap), (6, .int .i64 re), (8, .int .i64 mn), (9, .int .i64 me), (12, .int .i64 i), (120, .bool false)] 146 G a w | 18 => SG [(0, .slice o l1 cap), (6, .int .i64 re), (8, .int .i64 mn), (9, .int .i64 me), (12, .int .i64 i), (120, .bool false)] 146 G a w | 19 => SG [(0, .slice o l1 cap), (6, .int .i64 re), (8, .int .i64 mn), (9, .int .i64 me), (12, .int .i64 i), (120, .bool false)] 146 G a w | 20 => SG [(0, .slice o l1 cap), (6, .int .i64 re), (8, .int .i64 mn), (9, .int .i64 me), (12, .int .i64 i), (120, .bool false)] 146 G a w | 21 => SG [(0, .slice o l1 cap), (6, .int .i64 re), (8, .int .i64 mn), (9, .int .i64 me), (12, .int .i64 i), (120, .bool false)] 146 G a w | 22 => SG [(0, .slice o l1 cap), (6, .int .i64 re), (8, .int .i64 mn), (9, .int .i64 me), (12, .int .i64 i), (127, .bool false)] 146 G a w | _ => SG [(0, .slice o l1 cap), (6, .int .i64 re), (8, .int .i64 mn), (9, .int .i64 me), (12, .int .i64 i), (11, .bool false)] 146 G a w) (show SG _ _ G a w from h0) ⟨?_, ?_, ?_, ?_, ?_, ?_, ?_, ?_, ?_, ?_, ?_, ?_, ?_, ?_, ?_, ?_, ?_, ?_, ?_, ?_, ?_, ?_, ?_, trivial⟩ ?_
  · intro a w hI
    have hI : SG _ _ G a w := hI
    have e11 := hI.g 11 rfl
    go_simp
    exact hI.put (d := 106) (by decide) (by simp) hI.wp
  · intro a w hI
    have hI : SG _ _ G a w := hI
    have e106 := hI.g 106 rfl
    go_simp
    exact hI.put (d := 107) (by decide) (by simp) hI.wp
  · intro a w hI
    have hI : SG _ _ G a w := hI
    have e12 := hI.g 12 rfl
    have e107 := hI.g 107 rfl
    have f107 := slot_bool e107
    go_simp
    exact hI.put (d := 108) (by decide) (by simp) hI.wp
  · intro a w hI
    have hI : SG _ _ G a w := hI
    have e0 := hI.g 0 rfl
    have e107 := hI.g 107 rfl
    have f107 := slot_bool e107
    go_simp
    exact hI.put (d := 109) (by decide) (by simp) hI.wp
  · intro a w hI
    have hI : SG _ _ G a w := hI
    have e109 := hI.g 109 rfl
    have e107 := hI.g 107 rfl
    have f107 := slot_bool e107
    go_simp
    exact hI.put (d := 110) (by decide) (by simp) hI.wp
  · intro a w hI
    have hI : SG _ _ G a w := hI
    have e108 := hI.g 108 rfl
    have e110 := hI.g 110 rfl
    have e107 := hI.g 107 rfl
    have f107 := slot_bool e107
    go_simp
    exact hI.put (d := 111) (by decide) (by simp) hI.wp
  · intro a w hI
    have hI : SG _ _ G a w := hI
    have e107 := hI.g 107 rfl
    have e111 := hI.g 111 rfl
    go_simp
    exact hI.put (d := 112) (by decide) (by simp) hI.wp
  · intro a w hI
    have hI : SG _ _ G a w := hI
    have e112 := hI.g 112 rfl
    go_simp
    exact hI.put (d := 113) (by decide) (by simp) hI.wp
  · intro a w hI
    have hI : SG _ _ G a w := hI
    have e113 := hI.g 113 rfl
    have f113 := slot_bool e113
    go_simp
    exact hI.put (d := 114) (by decide) (by simp) hI.wp
  · intro a w hI
    have hI : SG _ _ G a w := hI
    have e113 := hI.g 113 rfl
    have f113 := slot_bool e113
    go_simp
    exact hI.put (d := 115) (by decide) (by simp) hI.wp
  · intro a w hI
    have hI : SG _ _ G a w := hI
    have e113 := hI.g 113 rfl
    have f113 := slot_bool e113
    go_simp
    exact hI.put (d := 116) (by decide) (by simp) hI.wp
  · intro a w hI
    have hI : SG _ _ G a w := hI
    have e113 := hI.g 113 rfl
    have f113 := slot_bool e113
    go_simp
    exact hI.put (d := 117) (by decide) (by simp) hI.wp
  · intro a w hI
    have hI : SG _ _ G a w := hI
    have e113 := hI.g 113 rfl
    have f113 := slot_bool e113
    go_simp
    refine ⟨trivial, ?_⟩
    exact hI.put (d := 118) (by decide) (by simp) hI.wp
  · intro a w hI
    have hI : SG _ _ G a w := hI
    have e113 := hI.g 113 rfl
    go_simp
    exact hI.put (d := 119) (by decide) (by simp) hI.wp
  · intro a w hI
    have hI : SG _ _ G a w := hI
    have e119 := hI.g 119 rfl
    go_simp
    exact hI.put (d := 120) (by decide) (by simp) hI.wp
  · intro a w hI
    have hI : SG _ _ G a w := hI
    have e120 := hI.g 120 rfl
    have f120 := slot_bool e120
    go_simp
    exact hI.put (d := 121) (by decide) (by simp) hI.wp
  · intro a w hI
    have hI : SG _ _ G a w := hI
    have e120 := hI.g 120 rfl
    have f120 := slot_bool e120
    go_simp
    exact hI.put (d := 122) (by decide) (by simp) hI.wp
  · intro a w hI
    have hI : SG _ _ G a w := hI
    have e120 := hI.g 120 rfl
    have f120 := slot_bool e120
    go_simp
    exact hI.put (d := 123) (by decide) (by simp) hI.wp
  · intro a w hI
    have hI : SG _ _ G a w := hI
    have e120 := hI.g 120 rfl
    have f120 := slot_bool e120
    go_simp
    exact hI.put (d := 124) (by decide) (by simp) hI.wp
  · intro a w hI
    have hI : SG _ _ G a w := hI
    have e120 := hI.g 120 rfl
    have f120 := slot_bool e120
    go_simp
    exact hI.put (d := 125) (by decide) (by simp) hI.wp
  · intro a w hI
    have hI : SG _ _ G a w := hI
    have e120 := hI.g 120 rfl
    have f120 := slot_bool e120
    go_simp
    refine ⟨trivial, ?_⟩
    exact hI.put (d := 126) (by decide) (by simp) hI.wp
  · intro a w hI
    have hI : SG _ _ G a w := hI
    have e120 := hI.g 120 rfl
    go_simp
    exact hI.put (d := 127) (by decide) (by simp) hI.wp
  · intro a w hI
    have hI : SG _ _ G a w := hI
    have e127 := hI.g 127 rfl
    go_simp
    exact hI.put (d := 11) (by decide) (by simp) hI.wp
  · intro a w hI
    have hI : SG _ _ G a w := hI
    exact hQ a w hI
set_option maxRecDepth 100000 in
set_option maxHeartbeats 4000000 in
theorem fs19m (n : Nat) {G : World → Prop} (hS : Stable G) (g off l1 cap : Nat) (re mn me : Int) (i kk v : Nat) (h : i < l1) (ca0 : ∀ w, G w → w.cell? ⟨g, off + i * 2, none⟩ = some (.int .u8 kk)) (ca1 : ∀ w, G w → w.cell? ⟨g, off + i * 2 + 1, none⟩ = some (.int .u8 v)) (hm : ∀ m w, G w → CallsIn Fence.wide m Try.prog 22 #[.agg #[.int .u8 kk, .int .u8 v]] w fun e w' => e = .returned (.bool false) ∧ Below w.heap.size w w') (Q : Exit → Act → World → Prop) (a : Act) (w : World) (h0 : SG [(0, .slice (some ⟨g, off, none⟩) l1 cap), (6, .int .i64 re), (8, .int .i64 mn), (9, .int .i64 me), (11, .bool true), (12, .int .i64 i)] 146 G a w)
    (hQ : ∀ a w, SG [(0, .slice (some ⟨g, off, none⟩) l1 cap), (6, .int .i64 re), (8, .int .i64 mn), (9, .int .i64 me), (12, .int .i64 i), (11, .bool false)] 146 G a w → Q .normal a w) : (regOf 19 C7).wpIn Fence.wide n Try.prog Q a w := by
  simp only [regOf, C7, Try.f7, Option.getD, Nat.reduceBEq, Bool.false_eq_true, if_true, if_false]
  refine region_sq (fun k_ a w => match k_ with | 0 => SG [(0, .slice (some ⟨g, off, none⟩) l1 cap), (6, .int .i64 re), (8, .int .i64 mn), (9, .int .i64 me), (11, .bool true), (12, .int .i64 i)] 146 G a w | 1 => SG [(0, .slice (some ⟨g, off, none⟩) l1 cap), (6, .int .i64 re), (8, .int .i64 mn), (9, .int .i64 me), (12, .int .i64 i), (106, .bool true)] 146 G a w | 2 => SG [(0, .slice (some ⟨g, off, none⟩) l1 cap), (6, .int .i64 re), (8, .int .i64 mn), (9, .int .i64 me), (12, .int .i64 i), (107, .bool true)] 146 G a w | 3 => SG [(0, .slice (some ⟨g, off, none⟩) l1 cap), (6, .int .i64 re), (8, .int .i64 mn), (9, .int .i64 me), (12, .int .i64 i), (107, .bool true), (108, .int .i64 i)] 146 G a w | 4 => SG [(0, .slice (some ⟨g, off, none⟩) l1 cap), (6, .int .i64 re), (8, .int .i64 mn), (9, .int .i64 me), (12, .int .i64 i), (107, .bool true), (108, .int .i64 i), (109, .slice (some ⟨g, off, none⟩) l1 cap)] 146 G a w | 5 => SG [(0, .slice (some ⟨g, off, none⟩) l1 cap), (6, .int .i64 re), (8, .int .i64 mn), (9, .int .i64 me), (12, .int .i64 i), (107, .bool true), (108, .int .i64 i), (110, .int .i64 l1)] 146 G a w | 6 => SG [(0, .slice (some ⟨g, off, none⟩) l1 cap), (6, .int .i64 re), (8, .int .i64 mn), (9, .int .i64 me), (12, .int .i64 i), (107, .bool true), (111, .bool true)] 146 G a w | 7 => SG [(0, .slice (some ⟨g, off, none⟩) l1 cap), (6, .int .i64 re), (8, .int .i64 mn), (9, .int .i64 me), (12, .int .i64 i), (112, .bool true)] 146 G a w | 8 => SG [(0, .slice (some ⟨g, off, none⟩) l1 cap), (6, .int .i64 re), (8, .int .i64 mn), (9, .int .i64 me), (12, .int .i64 i), (113, .bool true)] 146 G a w | 9 => SG [(0, .slice (some ⟨g, off, none⟩) l1 cap), (6, .int .i64 re), (8, .int .i64 mn), (9, .int .i64 me), (12, .int .i64 i), (113, .bool true), (114, .slice (some ⟨g, off, none⟩) l1 cap)] 146 G a w | 10 => SG [(0, .slice (some ⟨g, off, none⟩) l1 cap), (6, .int .i64 re), (8, .int .i64 mn), (9, .int .i64 me), (12, .int .i64 i), (113, .bool true), (114, .slice (some ⟨g, off, none⟩) l1 cap), (115, .int .i64 i)] 146 G a w | 11 => SG [(0, .slice (some ⟨g, off, none⟩) l1 cap), (6, .int .i64 re), (8, .int .i64 mn), (9, .int .i64 me), (12, .int .i64 i), (113, .bool true), (116, .pointer (some ⟨g, off + i * 2, none⟩))] 146 G a w | 12 => SG [(0, .slice (some ⟨g, off, none⟩) l1 cap), (6, .int .i64 re), (8, .int .i64 mn), (9, .int .i64 me), (12, .int .i64 i), (113, .bool true), (117, .agg #[.int .u8 kk, .int .u8 v])] 146 G a w | 13 => SG [(0, .slice (some ⟨g, off, none⟩) l1 cap), (6, .int .i64 re), (8, .int .i64 mn), (9, .int .i64 me), (12, .int .i64 i), (113, .bool true), (118, .bool false)] 146 G a w | 14 => SG [(0, .slice (some ⟨g, off, none⟩) l1 cap), (6, .int .i64 re), (8, .int .i64 mn), (9, .int .i64 me), (12, .int .i64 i), (119, .bool false)] 146 G a w | 15 => SG [(0, .slice (some ⟨g, off, none⟩) l1 cap), (6, .int .i64 re), (8, .int .i64 mn), (9, .int .i64 me), (12, .int .i64 i), (120, .bool false)] 146 G a w | 16 => SG [(0, .slice (some ⟨g, off, none⟩) l1 cap), (6, .int .i64 re), (8, .int .i64 mn), (9, .int .i64 me), (12, .int .i64 i), (120, .bool false)] 146 G a w | 17 => SG [(0, .slice (some ⟨g, off, none⟩) l1 cap), (6, .int .i64 re), (8, .int .i64 mn), (9, .int .i64 me), (12, .int .i64 i), (120, .bool false)] 146 G a w | 18 => SG [(0, .slice (some ⟨g, off, none⟩) l1 cap), (6, .int .i64 re), (8, .int .i64 mn), (9, .int .i64 me), (12, .int .i64 i), (120, .bool false)] 146 G a w | 19 => SG [(0, .slice (some ⟨g, off, none⟩) l1 cap), (6, .int .i64 re), (8, .int .i64 mn), (9, .int .i64 me), (12, .int .i64 i), (120, .bool false)] 146 G a w | 20 => SG [(0, .slice (some ⟨g, off, none⟩) l1 cap), (6, .int .i64 re), (8, .int .i64 mn), (9, .int .i64 me), (12, .int .i64 i), (120, .bool false)] 146 G a w | 21 => SG [(0, .slice (some ⟨g, off, none⟩) l1 cap), (6, .int .i64 re), (8, .int .i64 mn), (9, .int .i64 me), (12, .int .i64 i), (120, .bool false)] 146 G a w | 22 => SG [(0, .slice (some ⟨g, off, none⟩) l1 cap), (6, .int .i64 re), (8, .int .i64 mn), (9, .int .i64 me), (12, .int .i64 i), (127, .bool false)] 146 G a w | _ => SG [(0, .slice (some ⟨g, off, none⟩) l1 cap), (6, .int .i64 re), (8, .int .i64 mn), (9, .int .i64 me), (12, .int .i64 i), (11, .bool false)] 146 G a w) (show SG _ _ G a w from h0) ⟨?_, ?_, ?_, ?_, ?_, ?_, ?_, ?_, ?_, ?_, ?_, ?_, ?_, ?_, ?_, ?_, ?_, ?_, ?_, ?_, ?_, ?_, ?_, trivial⟩ ?_
  · intro a w hI
    have hI : SG _ _ G a w := hI
    have e11 := hI.g 11 rfl
    go_simp
    exact hI.put (d := 106) (by decide) (by simp) hI.wp
  · intro a w hI
    have hI : SG _ _ G a w := hI
    have e106 := hI.g 106 rfl
    go_simp
    exact hI.put (d := 107) (by decide) (by simp) hI.wp
  · intro a w hI
    have hI : SG _ _ G a w := hI
    have e12 := hI.g 12 rfl
    have e107 := hI.g 107 rfl
    have f107 := slot_bool e107
    go_simp
    exact hI.put (d := 108) (by decide) (by simp) hI.wp
  · intro a w hI
    have hI : SG _ _ G a w := hI
    have e0 := hI.g 0 rfl
    have e107 := hI.g 107 rfl
    have f107 := slot_bool e107
    go_simp
    exact hI.put (d := 109) (by decide) (by simp) hI.wp
  · intro a w hI
    have hI : SG _ _ G a w := hI
    have e109 := hI.g 109 rfl
    have e107 := hI.g 107 rfl
    have f107 := slot_bool e107
    go_simp
    exact hI.put (d := 110) (by decide) (by simp) hI.wp
  · intro a w hI
    have hI : SG _ _ G a w := hI
    have e108 := hI.g 108 rfl
    have e110 := hI.g 110 rfl
    have e107 := hI.g 107 rfl
    have f107 := slot_bool e107
    go_simp
    exact hI.put (d := 111) (by decide) (by simp) hI.wp
  · intro a w hI
    have hI : SG _ _ G a w := hI
    have e107 := hI.g 107 rfl
    have e111 := hI.g 111 rfl
    go_simp
    exact hI.put (d := 112) (by decide) (by simp) hI.wp
  · intro a w hI
    have hI : SG _ _ G a w := hI
    have e112 := hI.g 112 rfl
    go_simp
    exact hI.put (d := 113) (by decide) (by simp) hI.wp
  · intro a w hI
    have hI : SG _ _ G a w := hI
    have e0 := hI.g 0 rfl
    have e113 := hI.g 113 rfl
    have f113 := slot_bool e113
    go_simp
    exact hI.put (d := 114) (by decide) (by simp) hI.wp
  · intro a w hI
    have hI : SG _ _ G a w := hI
    have e12 := hI.g 12 rfl
    have e113 := hI.g 113 rfl
    have f113 := slot_bool e113
    go_simp
    exact hI.put (d := 115) (by decide) (by simp) hI.wp
  · intro a w hI
    have hI : SG _ _ G a w := hI
    have e114 := hI.g 114 rfl
    have e115 := hI.g 115 rfl
    have e113 := hI.g 113 rfl
    have f113 := slot_bool e113
    have q1_10 : (0 : Int) ≤ i := by omega
    have q2_10 : (i : Int) < l1 := by omega
    go_simp
    exact hI.put (d := 116) (by decide) (by simp) hI.wp
  · intro a w hI
    have hI : SG _ _ G a w := hI
    have e116 := hI.g 116 rfl
    have e113 := hI.g 113 rfl
    have f113 := slot_bool e113
    have cc0 := ca0 w hI.wp
    have cc1 := ca1 w hI.wp
    go_simp
    exact hI.put (d := 117) (by decide) (by simp) hI.wp
  · intro a w hI
    have hI : SG _ _ G a w := hI
    have e117 := hI.g 117 rfl
    have e113 := hI.g 113 rfl
    have f113 := slot_bool e113
    go_simp
    refine ⟨trivial, fun h => (by cases h), (hm (n - 1) w hI.wp).mono ?_⟩
    rintro e w' ⟨rfl, hb2⟩
    exact hI.put (d := 118) (by decide) (by simp) (hS _ _ hI.wp hb2)
  · intro a w hI
    have hI : SG _ _ G a w := hI
    have e113 := hI.g 113 rfl
    have e118 := hI.g 118 rfl
    go_simp
    exact hI.put (d := 119) (by decide) (by simp) hI.wp
  · intro a w hI
    have hI : SG _ _ G a w := hI
    have e119 := hI.g 119 rfl
    go_simp
    exact hI.put (d := 120) (by decide) (by simp) hI.wp
  · intro a w hI
    have hI : SG _ _ G a w := hI
    have e120 := hI.g 120 rfl
    have f120 := slot_bool e120
    go_simp
    exact hI.put (d := 121) (by decide) (by simp) hI.wp
  · intro a w hI
    have hI : SG _ _ G a w := hI
    have e120 := hI.g 120 rfl
    have f120 := slot_bool e120
    go_simp
    exact hI.put (d := 122) (by decide) (by simp) hI.wp
  · intro a w hI
    have hI : SG _ _ G a w := hI
    have e120 := hI.g 120 rfl
    have f120 := slot_bool e120
    go_simp
    exact hI.put (d := 123) (by decide) (by simp) hI.wp
  · intro a w hI
    have hI : SG _ _ G a w := hI
    have e120 := hI.g 120 rfl
    have f120 := slot_bool e120
    go_simp
    exact hI.put (d := 124) (by decide) (by simp) hI.wp
  · intro a w hI
    have hI : SG _ _ G a w := hI
    have e120 := hI.g 120 rfl
    have f120 := slot_bool e120
    go_simp
    exact hI.put (d := 125) (by decide) (by simp) hI.wp
  · intro a w hI
    have hI : SG _ _ G a w := hI
    have e120 := hI.g 120 rfl
    have f120 := slot_bool e120
    go_simp
    refine ⟨trivial, ?_⟩
    exact hI.put (d := 126) (by decide) (by simp) hI.wp
  · intro a w hI
    have hI : SG _ _ G a w := hI
    have e120 := hI.g 120 rfl
    go_simp
    exact hI.put (d := 127) (by decide) (by simp) hI.wp
  · intro a w hI
    have hI : SG _ _ G a w := hI
    have e127 := hI.g 127 rfl
    go_simp
    exact hI.put (d := 11) (by decide) (by simp) hI.wp
  · intro a w hI
    have hI : SG _ _ G a w := hI
    exact hQ a w hI
set_option maxRecDepth 100000 in
set_option maxHeartbeats 4000000 in
theorem fs19t (n : Nat) {G : World → Prop} (hS : Stable G) (g off l1 cap : Nat) (re mn me : Int) (i kk v : Nat) (h : i < l1) (b : Bool) (ca0 : ∀ w, G w → w.cell? ⟨g, off + i * 2, none⟩ = some (.int .u8 kk)) (ca1 : ∀ w, G w → w.cell? ⟨g, off + i * 2 + 1, none⟩ = some (.int .u8 v)) (hm : ∀ m w, G w → CallsIn Fence.wide m Try.prog 22 #[.agg #[.int .u8 kk, .int .u8 v]] w fun e w' => e = .returned (.bool true) ∧ Below w.heap.size w w') (hv : ∀ m w, G w → CallsIn Fence.wide m Try.prog 20 #[.int .u8 kk] w fun e w' => e = .returned (.bool b) ∧ Below w.heap.size w w') (Q : Exit → Act → World → Prop) (a : Act) (w : World) (h0 : SG [(0, .slice (some ⟨g, off, none⟩) l1 cap), (6, .int .i64 re), (8, .int .i64 mn), (9, .int .i64 me), (11, .bool true), (12, .int .i64 i)] 146 G a w)
    (hQ : ∀ a w, SG [(0, .slice (some ⟨g, off, none⟩) l1 cap), (6, .int .i64 re), (8, .int .i64 mn), (9, .int .i64 me), (12, .int .i64 i), (11, .bool b)] 146 G a w → Q .normal a w) : (regOf 19 C7).wpIn Fence.wide n Try.prog Q a w := by
  simp only [regOf, C7, Try.f7, Option.getD, Nat.reduceBEq, Bool.false_eq_true, if_true, if_false]
  refine region_sq (fun k_ a w => match k_ with | 0 => SG [(0, .slice (some ⟨g, off, none⟩) l1 cap), (6, .int .i64 re), (8, .int .i64 mn), (9, .int .i64 me), (11, .bool true), (12, .int .i64 i)] 146 G a w | 1 => SG [(0, .slice (some ⟨g, off, none⟩) l1 cap), (6, .int .i64 re), (8, .int .i64 mn), (9, .int .i64 me), (12, .int .i64 i), (106, .bool true)] 146 G a w | 2 => SG [(0, .slice (some ⟨g, off, none⟩) l1 cap), (6, .int .i64 re), (8, .int .i64 mn), (9, .int .i64 me), (12, .int .i64 i), (107, .bool true)] 146 G a w | 3 => SG [(0, .slice (some ⟨g, off, none⟩) l1 cap), (6, .int .i64 re), (8, .int .i64 mn), (9, .int .i64 me), (12, .int .i64 i), (107, .bool true), (108, .int .i64 i)] 146 G a w | 4 => SG [(0, .slice (some ⟨g, off, none⟩) l1 cap), (6, .int .i64 re), (8, .int .i64 mn), (9, .int .i64 me), (12, .int .i64 i), (107, .bool true), (108, .int .i64 i), (109, .slice (some ⟨g, off, none⟩) l1 cap)] 146 G a w | 5 => SG [(0, .slice (some ⟨g, off, none⟩) l1 cap), (6, .int .i64 re), (8, .int .i64 mn), (9, .int .i64 me), (12, .int .i64 i), (107, .bool true), (108, .int .i64 i), (110, .int .i64 l1)] 146 G a w | 6 => SG [(0, .slice (some ⟨g, off, none⟩) l1 cap), (6, .int .i64 re), (8, .int .i64 mn), (9, .int .i64 me), (12, .int .i64 i), (107, .bool true), (111, .bool true)] 146 G a w | 7 => SG [(0, .slice (some ⟨g, off, none⟩) l1 cap), (6, .int .i64 re), (8, .int .i64 mn), (9, .int .i64 me), (12, .int .i64 i), (112, .bool true)] 146 G a w | 8 => SG [(0, .slice (some ⟨g, off, none⟩) l1 cap), (6, .int .i64 re), (8, .int .i64 mn), (9, .int .i64 me), (12, .int .i64 i), (113, .bool true)] 146 G a w | 9 => SG [(0, .slice (some ⟨g, off, none⟩) l1 cap), (6, .int .i64 re), (8, .int .i64 mn), (9, .int .i64 me), (12, .int .i64 i), (113, .bool true), (114, .slice (some ⟨g, off, none⟩) l1 cap)] 146 G a w | 10 => SG [(0, .slice (some ⟨g, off, none⟩) l1 cap), (6, .int .i64 re), (8, .int .i64 mn), (9, .int .i64 me), (12, .int .i64 i), (113, .bool true), (114, .slice (some ⟨g, off, none⟩) l1 cap), (115, .int .i64 i)] 146 G a w | 11 => SG [(0, .slice (some ⟨g, off, none⟩) l1 cap), (6, .int .i64 re), (8, .int .i64 mn), (9, .int .i64 me), (12, .int .i64 i), (113, .bool true), (116, .pointer (some ⟨g, off + i * 2, none⟩))] 146 G a w | 12 => SG [(0, .slice (some ⟨g, off, none⟩) l1 cap), (6, .int .i64 re), (8, .int .i64 mn), (9, .int .i64 me), (12, .int .i64 i), (113, .bool true), (117, .agg #[.int .u8 kk, .int .u8 v])] 146 G a w | 13 => SG [(0, .slice (some ⟨g, off, none⟩) l1 cap), (6, .int .i64 re), (8, .int .i64 mn), (9, .int .i64 me), (12, .int .i64 i), (113, .bool true), (118, .bool true)] 146 G a w | 14 => SG [(0, .slice (some ⟨g, off, none⟩) l1 cap), (6, .int .i64 re), (8, .int .i64 mn), (9, .int .i64 me), (12, .int .i64 i), (119, .bool true)] 146 G a w | 15 => SG [(0, .slice (some ⟨g, off, none⟩) l1 cap), (6, .int .i64 re), (8, .int .i64 mn), (9, .int .i64 me), (12, .int .i64 i), (120, .bool true)] 146 G a w | 16 => SG [(0, .slice (some ⟨g, off, none⟩) l1 cap), (6, .int .i64 re), (8, .int .i64 mn), (9, .int .i64 me), (12, .int .i64 i), (120, .bool true), (121, .slice (some ⟨g, off, none⟩) l1 cap)] 146 G a w | 17 => SG [(0, .slice (some ⟨g, off, none⟩) l1 cap), (6, .int .i64 re), (8, .int .i64 mn), (9, .int .i64 me), (12, .int .i64 i), (120, .bool true), (121, .slice (some ⟨g, off, none⟩) l1 cap), (122, .int .i64 i)] 146 G a w | 18 => SG [(0, .slice (some ⟨g, off, none⟩) l1 cap), (6, .int .i64 re), (8, .int .i64 mn), (9, .int .i64 me), (12, .int .i64 i), (120, .bool true), (123, .pointer (some ⟨g, off + i * 2, none⟩))] 146 G a w | 19 => SG [(0, .slice (some ⟨g, off, none⟩) l1 cap), (6, .int .i64 re), (8, .int .i64 mn), (9, .int .i64 me), (12, .int .i64 i), (120, .bool true), (124, .pointer (some ⟨g, off + i * 2, none⟩))] 146 G a w | 20 => SG [(0, .slice (some ⟨g, off, none⟩) l1 cap), (6, .int .i64 re), (8, .int .i64 mn), (9, .int .i64 me), (12, .int .i64 i), (120, .bool true), (125, .int .u8 kk)] 146 G a w | 21 => SG [(0, .slice (some ⟨g, off, none⟩) l1 cap), (6, .int .i64 re), (8, .int .i64 mn), (9, .int .i64 me), (12, .int .i64 i), (120, .bool true), (126, .bool b)] 146 G a w | 22 => SG [(0, .slice (some ⟨g, off, none⟩) l1 cap), (6, .int .i64 re), (8, .int .i64 mn), (9, .int .i64 me), (12, .int .i64 i), (127, .bool b)] 146 G a w | _ => SG [(0, .slice (some ⟨g, off, none⟩) l1 cap), (6, .int .i64 re), (8, .int .i64 mn), (9, .int .i64 me), (12, .int .i64 i), (11, .bool b)] 146 G a w) (show SG _ _ G a w from h0) ⟨?_, ?_, ?_, ?_, ?_, ?_, ?_, ?_, ?_, ?_, ?_, ?_, ?_, ?_, ?_, ?_, ?_, ?_, ?_, ?_, ?_, ?_, ?_, trivial⟩ ?_
  · intro a w hI
    have hI : SG _ _ G a w := hI
    have e11 := hI.g 11 rfl
    go_simp
    exact hI.put (d := 106) (by decide) (by simp) hI.wp
  · intro a w hI
    have hI : SG _ _ G a w := hI
    have e106 := hI.g 106 rfl
    go_simp
    exact hI.put (d := 107) (by decide) (by simp) hI.wp
  · intro a w hI
    have hI : SG _ _ G a w := hI
    have e12 := hI.g 12 rfl
    have e107 := hI.g 107 rfl
    have f107 := slot_bool e107
    go_simp
    exact hI.put (d := 108) (by decide) (by simp) hI.wp
  · intro a w hI
    have hI : SG _ _ G a w := hI
    have e0 := hI.g 0 rfl
    have e107 := hI.g 107 rfl
    have f107 := slot_bool e107
    go_simp
    exact hI.put (d := 109) (by decide) (by simp) hI.wp
  · intro a w hI
    have hI : SG _ _ G a w := hI
    have e109 := hI.g 109 rfl
    have e107 := hI.g 107 rfl
    have f107 := slot_bool e107
    go_simp
    exact hI.put (d := 110) (by decide) (by simp) hI.wp
  · intro a w hI
    have hI : SG _ _ G a w := hI
    have e108 := hI.g 108 rfl
    have e110 := hI.g 110 rfl
    have e107 := hI.g 107 rfl
    have f107 := slot_bool e107
    go_simp
    exact hI.put (d := 111) (by decide) (by simp) hI.wp
  · intro a w hI
    have hI : SG _ _ G a w := hI
    have e107 := hI.g 107 rfl
    have e111 := hI.g 111 rfl
    go_simp
    exact hI.put (d := 112) (by decide) (by simp) hI.wp
  · intro a w hI
    have hI : SG _ _ G a w := hI
    have e112 := hI.g 112 rfl
    go_simp
    exact hI.put (d := 113) (by decide) (by simp) hI.wp
  · intro a w hI
    have hI : SG _ _ G a w := hI
    have e0 := hI.g 0 rfl
    have e113 := hI.g 113 rfl
    have f113 := slot_bool e113
    go_simp
    exact hI.put (d := 114) (by decide) (by simp) hI.wp
  · intro a w hI
    have hI : SG _ _ G a w := hI
    have e12 := hI.g 12 rfl
    have e113 := hI.g 113 rfl
    have f113 := slot_bool e113
    go_simp
    exact hI.put (d := 115) (by decide) (by simp) hI.wp
  · intro a w hI
    have hI : SG _ _ G a w := hI
    have e114 := hI.g 114 rfl
    have e115 := hI.g 115 rfl
    have e113 := hI.g 113 rfl
    have f113 := slot_bool e113
    have q1_10 : (0 : Int) ≤ i := by omega
    have q2_10 : (i : Int) < l1 := by omega
    go_simp
    exact hI.put (d := 116) (by decide) (by simp) hI.wp
  · intro a w hI
    have hI : SG _ _ G a w := hI
    have e116 := hI.g 116 rfl
    have e113 := hI.g 113 rfl
    have f113 := slot_bool e113
    have cc0 := ca0 w hI.wp
    have cc1 := ca1 w hI.wp
    go_simp
    exact hI.put (d := 117) (by decide) (by simp) hI.wp
  · intro a w hI
    have hI : SG _ _ G a w := hI
    have e117 := hI.g 117 rfl
    have e113 := hI.g 113 rfl
    have f113 := slot_bool e113
    go_simp
    refine ⟨trivial, fun h => (by cases h), (hm (n - 1) w hI.wp).mono ?_⟩
    rintro e w' ⟨rfl, hb2⟩
    exact hI.put (d := 118) (by decide) (by simp) (hS _ _ hI.wp hb2)
  · intro a w hI
    have hI : SG _ _ G a w := hI
    have e113 := hI.g 113 rfl
    have e118 := hI.g 118 rfl
    go_simp
    exact hI.put (d := 119) (by decide) (by simp) hI.wp
  · intro a w hI
    have hI : SG _ _ G a w := hI
    have e119 := hI.g 119 rfl
    go_simp
    exact hI.put (d := 120) (by decide) (by simp) hI.wp
  · intro a w hI
    have hI : SG _ _ G a w := hI
    have e0 := hI.g 0 rfl
    have e120 := hI.g 120 rfl
    have f120 := slot_bool e120
    go_simp
    exact hI.put (d := 121) (by decide) (by simp) hI.wp
  · intro a w hI
    have hI : SG _ _ G a w := hI
    have e12 := hI.g 12 rfl
    have e120 := hI.g 120 rfl
    have f120 := slot_bool e120
    go_simp
    exact hI.put (d := 122) (by decide) (by simp) hI.wp
  · intro a w hI
    have hI : SG _ _ G a w := hI
    have e121 := hI.g 121 rfl
    have e122 := hI.g 122 rfl
    have e120 := hI.g 120 rfl
    have f120 := slot_bool e120
    have q1_17 : (0 : Int) ≤ i := by omega
    have q2_17 : (i : Int) < l1 := by omega
    go_simp
    exact hI.put (d := 123) (by decide) (by simp) hI.wp
  · intro a w hI
    have hI : SG _ _ G a w := hI
    have e123 := hI.g 123 rfl
    have e120 := hI.g 120 rfl
    have f120 := slot_bool e120
    go_simp
    exact hI.put (d := 124) (by decide) (by simp) hI.wp
  · intro a w hI
    have hI : SG _ _ G a w := hI
    have e124 := hI.g 124 rfl
    have e120 := hI.g 120 rfl
    have f120 := slot_bool e120
    have cc0 := ca0 w hI.wp
    go_simp
    exact hI.put (d := 125) (by decide) (by simp) hI.wp
  · intro a w hI
    have hI : SG _ _ G a w := hI
    have e125 := hI.g 125 rfl
    have e120 := hI.g 120 rfl
    have f120 := slot_bool e120
    go_simp
    refine ⟨trivial, fun h => (by cases h), (hv (n - 1) w hI.wp).mono ?_⟩
    rintro e w' ⟨rfl, hb2⟩
    exact hI.put (d := 126) (by decide) (by simp) (hS _ _ hI.wp hb2)
  · intro a w hI
    have hI : SG _ _ G a w := hI
    have e120 := hI.g 120 rfl
    have e126 := hI.g 126 rfl
    go_simp
    exact hI.put (d := 127) (by decide) (by simp) hI.wp
  · intro a w hI
    have hI : SG _ _ G a w := hI
    have e127 := hI.g 127 rfl
    go_simp
    exact hI.put (d := 11) (by decide) (by simp) hI.wp
  · intro a w hI
    have hI : SG _ _ G a w := hI
    exact hQ a w hI
set_option maxRecDepth 100000 in
set_option maxHeartbeats 4000000 in
theorem fs20f (n : Nat) {G : World → Prop} (hS : Stable G) (re mn me : Int) (hw : ∀ m w, G w → CallsIn Fence.wide m Try.prog 11 #[] w fun e w' => e = .returned (.bool true) ∧ Below w.heap.size w w') (Q : Exit → Act → World → Prop) (a : Act) (w : World) (h0 : SG [(6, .int .i64 re), (8, .int .i64 mn), (9, .int .i64 me), (11, .bool false)] 146 G a w)
    (hQ : ∀ a w, SG [(4, .bool true)] 146 G a w → Q .normal a w) : (regOf 20 C7).wpIn Fence.wide n Try.prog Q a w := by
  simp only [regOf, C7, Try.f7, Option.getD, Nat.reduceBEq, Bool.false_eq_true, if_true, if_false]
  refine region_sq (fun k_ a w => match k_ with | 0 => SG [(11, .bool false)] 146 G a w | 1 => SG [(128, .bool false)] 146 G a w | 2 => SG [(129, .bool true)] 146 G a w | 3 => SG [(130, .bool true)] 146 G a w | 4 => SG [(130, .bool true)] 146 G a w | 5 => SG [(130, .bool true)] 146 G a w | 6 => SG [(130, .bool true), (133, undef)] 146 G a w | 7 => SG [(130, .bool true), (133, undef)] 146 G a w | 8 => SG [(130, .bool true), (133, undef)] 146 G a w | 9 => SG [(130, .bool true)] 146 G a w | 10 => SG [(130, .bool true)] 146 G a w | 11 => SG [(130, .bool true), (138, undef)] 146 G a w | 12 => SG [(130, .bool true), (138, undef)] 146 G a w | 13 => SG [(130, .bool true)] 146 G a w | 14 => SG [(130, .bool true)] 146 G a w | 15 => SG [(142, .bool true)] 146 G a w | 16 => SG [(143, .bool true)] 146 G a w | 17 => SG [(143, .bool true), (144, .bool true)] 146 G a w | 18 => SG [(145, .bool true)] 146 G a w | _ => SG [(4, .bool true)] 146 G a w) (show SG _ _ G a w from h0.sub (by intro p hp; simp only [List.mem_cons, List.not_mem_nil, or_false] at hp ⊢; simp [hp])) ⟨?_, ?_, ?_, ?_, ?_, ?_, ?_, ?_, ?_, ?_, ?_, ?_, ?_, ?_, ?_, ?_, ?_, ?_, ?_, trivial⟩ ?_
  · intro a w hI
    have hI : SG _ _ G a w := hI
    have e11 := hI.g 11 rfl
    go_simp
    exact hI.put (d := 128) (by decide) (by simp) hI.wp
  · intro a w hI
    have hI : SG _ _ G a w := hI
    have e128 := hI.g 128 rfl
    go_simp
    exact hI.put (d := 129) (by decide) (by simp) hI.wp
  · intro a w hI
    have hI : SG _ _ G a w := hI
    have e129 := hI.g 129 rfl
    go_simp
    exact hI.put (d := 130) (by decide) (by simp) hI.wp
  · intro a w hI
    have hI : SG _ _ G a w := hI
    have e130 := hI.g 130 rfl
    have f130 := slot_bool e130
    go_simp
    exact hI.put (d := 131) (by decide) (by simp) hI.wp
  · intro a w hI
    have hI : SG _ _ G a w := hI
    have e130 := hI.g 130 rfl
    have f130 := slot_bool e130
    go_simp
    exact hI.put (d := 132) (by decide) (by simp) hI.wp
  · intro a w hI
    have hI : SG _ _ G a w := hI
    have e130 := hI.g 130 rfl
    have f130 := slot_bool e130
    go_simp
    exact hI.put (d := 133) (by decide) (by simp) hI.wp
  · intro a w hI
    have hI : SG _ _ G a w := hI
    have e133 := hI.g 133 rfl
    have f133 := slot_undef e133 (by rw [hI.size]; decide)
    go_simp
    exact hI.put (d := 134) (by decide) (by simp) hI.wp
  · intro a w hI
    have hI : SG _ _ G a w := hI
    have e133 := hI.g 133 rfl
    have f133 := slot_undef e133 (by rw [hI.size]; decide)
    go_simp
    exact hI.put (d := 135) (by decide) (by simp) hI.wp
  · intro a w hI
    have hI : SG _ _ G a w := hI
    have e133 := hI.g 133 rfl
    have f133 := slot_undef e133 (by rw [hI.size]; decide)
    go_simp
    exact hI.put (d := 136) (by decide) (by simp) hI.wp
  · intro a w hI
    have hI : SG _ _ G a w := hI
    have e130 := hI.g 130 rfl
    have f130 := slot_bool e130
    go_simp
    exact hI.put (d := 137) (by decide) (by simp) hI.wp
  · intro a w hI
    have hI : SG _ _ G a w := hI
    have e130 := hI.g 130 rfl
    have f130 := slot_bool e130
    go_simp
    exact hI.put (d := 138) (by decide) (by simp) hI.wp
  · intro a w hI
    have hI : SG _ _ G a w := hI
    have e138 := hI.g 138 rfl
    have f138 := slot_undef e138 (by rw [hI.size]; decide)
    go_simp
    exact hI.put (d := 139) (by decide) (by simp) hI.wp
  · intro a w hI
    have hI : SG _ _ G a w := hI
    have e138 := hI.g 138 rfl
    have f138 := slot_undef e138 (by rw [hI.size]; decide)
    go_simp
    exact hI.put (d := 140) (by decide) (by simp) hI.wp
  · intro a w hI
    have hI : SG _ _ G a w := hI
    have e130 := hI.g 130 rfl
    have f130 := slot_bool e130
    go_simp
    exact hI.put (d := 141) (by decide) (by simp) hI.wp
  · intro a w hI
    have hI : SG _ _ G a w := hI
    have e130 := hI.g 130 rfl
    go_simp
    exact hI.put (d := 142) (by decide) (by simp) hI.wp
  · intro a w hI
    have hI : SG _ _ G a w := hI
    have e142 := hI.g 142 rfl
    go_simp
    exact hI.put (d := 143) (by decide) (by simp) hI.wp
  · intro a w hI
    have hI : SG _ _ G a w := hI
    have e143 := hI.g 143 rfl
    have f143 := slot_bool e143
    go_simp
    refine ⟨trivial, fun h => (by cases h), (hw (n - 1) w hI.wp).mono ?_⟩
    rintro e w' ⟨rfl, hb2⟩
    exact hI.put (d := 144) (by decide) (by simp) (hS _ _ hI.wp hb2)
  · intro a w hI
    have hI : SG _ _ G a w := hI
    have e143 := hI.g 143 rfl
    have e144 := hI.g 144 rfl
    go_simp
    exact hI.put (d := 145) (by decide) (by simp) hI.wp
  · intro a w hI
    have hI : SG _ _ G a w := hI
    have e145 := hI.g 145 rfl
    go_simp
    exact hI.put (d := 4) (by decide) (by simp) hI.wp
  · intro a w hI
    have hI : SG _ _ G a w := hI
    exact hQ a w hI
set_option maxRecDepth 100000 in
set_option maxHeartbeats 4000000 in
theorem fs20t (n : Nat) {G : World → Prop} (hS : Stable G)  (hw : ∀ m w, G w → CallsIn Fence.wide m Try.prog 11 #[] w fun e w' => e = .returned (.bool true) ∧ Below w.heap.size w w') (Q : Exit → Act → World → Prop) (a : Act) (w : World) (h0 : SG [(6, .int .i64 12), (8, .int .i64 0), (9, .int .i64 12), (11, .bool true)] 146 G a w)
    (hQ : ∀ a w, SG [(4, .bool true)] 146 G a w → Q .normal a w) : (regOf 20 C7).wpIn Fence.wide n Try.prog Q a w := by
  simp only [regOf, C7, Try.f7, Option.getD, Nat.reduceBEq, Bool.false_eq_true, if_true, if_false]
  refine region_sq (fun k_ a w => match k_ with | 0 => SG [(6, .int .i64 12), (8, .int .i64 0), (9, .int .i64 12), (11, .bool true)] 146 G a w | 1 => SG [(6, .int .i64 12), (8, .int .i64 0), (9, .int .i64 12), (128, .bool true)] 146 G a w | 2 => SG [(6, .int .i64 12), (8, .int .i64 0), (9, .int .i64 12), (129, .bool false)] 146 G a w | 3 => SG [(6, .int .i64 12), (8, .int .i64 0), (9, .int .i64 12), (130, .bool false)] 146 G a w | 4 => SG [(6, .int .i64 12), (8, .int .i64 0), (9, .int .i64 12), (130, .bool false), (131, .int .i64 12)] 146 G a w | 5 => SG [(6, .int .i64 12), (8, .int .i64 0), (9, .int .i64 12), (130, .bool false), (132, .bool true)] 146 G a w | 6 => SG [(6, .int .i64 12), (8, .int .i64 0), (9, .int .i64 12), (130, .bool false), (133, .bool true)] 146 G a w | 7 => SG [(6, .int .i64 12), (8, .int .i64 0), (130, .bool false), (133, .bool true), (134, .int .i64 12)] 146 G a w | 8 => SG [(8, .int .i64 0), (130, .bool false), (133, .bool true), (134, .int .i64 12), (135, .int .i64 12)] 146 G a w | 9 => SG [(8, .int .i64 0), (130, .bool false), (133, .bool true), (136, .bool true)] 146 G a w | 10 => SG [(8, .int .i64 0), (130, .bool false), (137, .bool true)] 146 G a w | 11 => SG [(8, .int .i64 0), (130, .bool false), (138, .bool true)] 146 G a w | 12 => SG [(130, .bool false), (138, .bool true), (139, .int .i64 0)] 146 G a w | 13 => SG [(130, .bool false), (138, .bool true), (140, .bool true)] 146 G a w | 14 => SG [(130, .bool false), (141, .bool true)] 146 G a w | 15 => SG [(142, .bool true)] 146 G a w | 16 => SG [(143, .bool true)] 146 G a w | 17 => SG [(143, .bool true), (144, .bool true)] 146 G a w | 18 => SG [(145, .bool true)] 146 G a w | _ => SG [(4, .bool true)] 146 G a w) (show SG _ _ G a w from h0) ⟨?_, ?_, ?_, ?_, ?_, ?_, ?_, ?_, ?_, ?_, ?_, ?_, ?_, ?_, ?_, ?_, ?_, ?_, ?_, trivial⟩ ?_
  · intro a w hI
    have hI : SG _ _ G a w := hI
    have e11 := hI.g 11 rfl
    go_simp
    exact hI.put (d := 128) (by decide) (by simp) hI.wp
  · intro a w hI
    have hI : SG _ _ G a w := hI
    have e128 := hI.g 128 rfl
    go_simp
    exact hI.put (d := 129) (by decide) (by simp) hI.wp
  · intro a w hI
    have hI : SG _ _ G a w := hI
    have e129 := hI.g 129 rfl
    go_simp
    exact hI.put (d := 130) (by decide) (by simp) hI.wp
  · intro a w hI
    have hI : SG _ _ G a w := hI
    have e6 := hI.g 6 rfl
    have e130 := hI.g 130 rfl
    have f130 := slot_bool e130
    go_simp
    exact hI.put (d := 131) (by decide) (by simp) hI.wp
  · intro a w hI
    have hI : SG _ _ G a w := hI
    have e131 := hI.g 131 rfl
    have e130 := hI.g 130 rfl
    have f130 := slot_bool e130
    go_simp
    exact hI.put (d := 132) (by decide) (by simp) hI.wp
  · intro a w hI
    have hI : SG _ _ G a w := hI
    have e132 := hI.g 132 rfl
    have e130 := hI.g 130 rfl
    have f130 := slot_bool e130
    go_simp
    exact hI.put (d := 133) (by decide) (by simp) hI.wp
  · intro a w hI
    have hI : SG _ _ G a w := hI
    have e9 := hI.g 9 rfl
    have e133 := hI.g 133 rfl
    have f133 := slot_bool e133
    go_simp
    exact hI.put (d := 134) (by decide) (by simp) hI.wp
  · intro a w hI
    have hI : SG _ _ G a w := hI
    have e6 := hI.g 6 rfl
    have e133 := hI.g 133 rfl
    have f133 := slot_bool e133
    go_simp
    exact hI.put (d := 135) (by decide) (by simp) hI.wp
  · intro a w hI
    have hI : SG _ _ G a w := hI
    have e134 := hI.g 134 rfl
    have e135 := hI.g 135 rfl
    have e133 := hI.g 133 rfl
    have f133 := slot_bool e133
    go_simp
    exact hI.put (d := 136) (by decide) (by simp) hI.wp
  · intro a w hI
    have hI : SG _ _ G a w := hI
    have e133 := hI.g 133 rfl
    have e136 := hI.g 136 rfl
    have e130 := hI.g 130 rfl
    have f130 := slot_bool e130
    go_simp
    exact hI.put (d := 137) (by decide) (by simp) hI.wp
  · intro a w hI
    have hI : SG _ _ G a w := hI
    have e137 := hI.g 137 rfl
    have e130 := hI.g 130 rfl
    have f130 := slot_bool e130
    go_simp
    exact hI.put (d := 138) (by decide) (by simp) hI.wp
  · intro a w hI
    have hI : SG _ _ G a w := hI
    have e8 := hI.g 8 rfl
    have e138 := hI.g 138 rfl
    have f138 := slot_bool e138
    go_simp
    exact hI.put (d := 139) (by decide) (by simp) hI.wp
  · intro a w hI
    have hI : SG _ _ G a w := hI
    have e139 := hI.g 139 rfl
    have e138 := hI.g 138 rfl
    have f138 := slot_bool e138
    go_simp
    exact hI.put (d := 140) (by decide) (by simp) hI.wp
  · intro a w hI
    have hI : SG _ _ G a w := hI
    have e138 := hI.g 138 rfl
    have e140 := hI.g 140 rfl
    have e130 := hI.g 130 rfl
    have f130 := slot_bool e130
    go_simp
    exact hI.put (d := 141) (by decide) (by simp) hI.wp
  · intro a w hI
    have hI : SG _ _ G a w := hI
    have e130 := hI.g 130 rfl
    have e141 := hI.g 141 rfl
    go_simp
    exact hI.put (d := 142) (by decide) (by simp) hI.wp
  · intro a w hI
    have hI : SG _ _ G a w := hI
    have e142 := hI.g 142 rfl
    go_simp
    exact hI.put (d := 143) (by decide) (by simp) hI.wp
  · intro a w hI
    have hI : SG _ _ G a w := hI
    have e143 := hI.g 143 rfl
    have f143 := slot_bool e143
    go_simp
    refine ⟨trivial, fun h => (by cases h), (hw (n - 1) w hI.wp).mono ?_⟩
    rintro e w' ⟨rfl, hb2⟩
    exact hI.put (d := 144) (by decide) (by simp) (hS _ _ hI.wp hb2)
  · intro a w hI
    have hI : SG _ _ G a w := hI
    have e143 := hI.g 143 rfl
    have e144 := hI.g 144 rfl
    go_simp
    exact hI.put (d := 145) (by decide) (by simp) hI.wp
  · intro a w hI
    have hI : SG _ _ G a w := hI
    have e145 := hI.g 145 rfl
    go_simp
    exact hI.put (d := 4) (by decide) (by simp) hI.wp
  · intro a w hI
    have hI : SG _ _ G a w := hI
    exact hQ a w hI
end Go.Proofs.Ytdkdoopimfchbaa
