/- Glow: the walk of a law. -/
import Derived.RangeFuncNested
import Derived.RangeFuncBound
import Derived.RangeFuncCalls
import Derived.RangeFuncLeaves
import Derived.Shelf.Abstract
import Derived.Shelf.RegionOpen
import Derived.WalkKit
import Derived.OwnWalkIn
import Derived.TacticsInMore
import Derived.LoopNIn
import Derived.LoopIn
import Derived.Lib.Hide
import Derived.IntWalk
import Derived.Maps.AppendAt
import Derived.Test.YtigblagodlfedaaHand

import Derived.Laws.CopyOwn
import Derived.Test.YtigblagodlfedaaM2
set_option linter.unusedVariables false
set_option linter.unusedSimpArgs false
namespace Go.Proofs.Ytigblagodlfedaa
open Go.RowKit Go.Shelf
attribute [local go_sem] Oper.semAt_some

open Pf (cellK cellL mayS spotV I64 U8 Gives movR totI totB ledgV)
section
variable {F : Fence} {nF : Nat} {P : Program} {w w' : World} {K : Act → World → Prop} {o : Oper} {a : Act} {Q : Exit → Act → World → Prop}
theorem operIn_build0 (t : TypeId) (ho : o.op = .build t #[]) (v : Value) (hr : (Instr.build t #[]).run P w = .ok v w) (h : K (a.put o.dst v) w) : o.wpIn F nF P a w K Q := by
  unfold Oper.wpIn
  refine ⟨by simp [Oper.about, ho], ?_⟩
  rw [Oper.semAt_plain F _ _ (by rw [ho]; intro c hc'; cases hc')]
  simp [execOp, ho, hr, Result.andThen]
  exact h
theorem operIn_box (x : Operand) (t : TypeId) (ho : o.op = .box t x) (v : Value) (hv : a.eval x = v) (h : K (a.put o.dst (.pointer (some ⟨w.heap.size, 0, none⟩))) (w.alloc (.cells v.cells t))) : o.wpIn F nF P a w K Q := by
  unfold Oper.wpIn
  refine ⟨by simp [Oper.about, ho], ?_⟩
  rw [Oper.semAt_plain F _ _ (by rw [ho]; intro c hc'; cases hc')]
  simp [execOp, ho, Sx.run_box, Result.andThen, hv]
  exact h
end
theorem run_build49 (w : World) : (Instr.build 49 #[]).run Try.prog w = .ok (.agg Z49) w := by
  obtain ⟨i, z, hi, hz, _⟩ := Sx.bigM_info (P := Try.prog) (t := 49) (n := 16384) (tl := [.nils]) (by kernel_rfl)
  obtain ⟨fs, hfs, hpl⟩ : ∃ fs, Try.prog.underlying 49 = some (.struct fs) ∧ Sx.placesB Try.prog fs.toList = some [(0, 8192), (8192, 8192), (16384, 1)] := ⟨_, Try.underlying49, by kernel_rfl⟩
  have e : Z49 = z.cells := by unfold Z49; rw [hi]; simp only [Option.bind_some, hz, Option.getD_some]
  refine run_build w 49 _ _ ?_
  unfold Program.built
  simp only [hi, hz, hfs, Sx.placesB_spec hpl, e]
  rfl
noncomputable def C12 : Code := Try.f12.body.getD .skip
set_option maxRecDepth 100000 in
set_option maxHeartbeats 4000000 in
theorem of0 (n : Nat) (W : World) (se : Option Addr) (EL ec : Nat)  (Q : Exit → Act → World → Prop) (a : Act) (h0 : SR [(0, .slice se EL ec), (1, .slice none 0 0)] 52 [] W a W)
    (hQ : ∀ a, SR [(0, .slice se EL ec), (1, .slice none 0 0)] 52 [] (W) a (W) → Q .normal a (W)) : (regOf 0 C12).wpIn Fence.wide n Try.prog Q a W := by
  simp only [regOf, C12, Try.f12, Option.getD, Nat.reduceBEq, Bool.false_eq_true, if_true, if_false]
  refine region_sq (fun k_ a w => match k_ with | 0 => SR [(0, .slice se EL ec), (1, .slice none 0 0)] 52 [] (W) a w | _ => SR [(0, .slice se EL ec), (1, .slice none 0 0)] 52 [] (W) a w) (show SR _ _ _ _ a W from h0) ⟨?_, trivial⟩ ?_
  · intro a w hI
    have hI : SR _ _ _ _ a w := hI
    have hw : w = W := hI.wp
    subst hw
    go_simp
    exact hI.put (d := 4) (by decide) (by simp)
  · intro a w hI
    have hI : SR _ _ _ _ a w := hI
    have hw : w = W := hI.wp
    subst hw
    exact hQ a hI
set_option maxRecDepth 100000 in
set_option maxHeartbeats 4000000 in
theorem of1 (n : Nat) (W : World) (se : Option Addr) (EL ec : Nat)  (Q : Exit → Act → World → Prop) (a : Act) (h0 : SR [(0, .slice se EL ec), (1, .slice none 0 0)] 52 [] W a W)
    (hQ : ∀ a, SR [(0, .slice se EL ec), (1, .slice none 0 0), (5, .pointer (some ⟨W.heap.size, 0, none⟩))] 52 [] (W.alloc (.cells Z49 49)) a (W.alloc (.cells Z49 49)) → Q .normal a (W.alloc (.cells Z49 49))) : (regOf 1 C12).wpIn Fence.wide n Try.prog Q a W := by
  simp only [regOf, C12, Try.f12, Option.getD, Nat.reduceBEq, Bool.false_eq_true, if_true, if_false]
  refine region_sq (fun k_ a w => match k_ with | 0 => SR [(0, .slice se EL ec), (1, .slice none 0 0)] 52 [] (W) a w | 1 => SR [(0, .slice se EL ec), (1, .slice none 0 0), (8, .agg Z49)] 52 [] (W) a w | 2 => SR [(0, .slice se EL ec), (1, .slice none 0 0), (9, .pointer (some ⟨W.heap.size, 0, none⟩))] 52 [] (W.alloc (.cells Z49 49)) a w | _ => SR [(0, .slice se EL ec), (1, .slice none 0 0), (5, .pointer (some ⟨W.heap.size, 0, none⟩))] 52 [] (W.alloc (.cells Z49 49)) a w) (show SR _ _ _ _ a W from h0) ⟨?_, ?_, ?_, trivial⟩ ?_
  · intro a w hI
    have hI : SR _ _ _ _ a w := hI
    have hw : w = W := hI.wp
    subst hw
    rw [if_pos (by simp [Region.wanted])]
    refine operIn_build0 49 rfl (.agg Z49) (run_build49 _) ?_
    exact hI.put (d := 8) (by decide) (by simp)
  · intro a w hI
    have hI : SR _ _ _ _ a w := hI
    have e8 := hI.g 8 rfl
    have hw : w = W := hI.wp
    subst hw
    rw [if_pos (by simp [Region.wanted])]
    refine operIn_box (.tmp 8) 49 rfl (.agg Z49) (by rw [eval_tmp, e8]) ?_
    exact hI.put (d := 9) (by decide) (by simp)
  · intro a w hI
    have hI : SR _ _ _ _ a w := hI
    have e9 := hI.g 9 rfl
    obtain rfl := hI.wp
    go_simp
    exact hI.put (d := 5) (by decide) (by simp)
  · intro a w hI
    have hI : SR _ _ _ _ a w := hI
    obtain rfl := hI.wp
    exact hQ a hI
set_option maxRecDepth 100000 in
set_option maxHeartbeats 4000000 in
theorem of2 (n : Nat) (W : World) (se : Option Addr) (EL ec : Nat) (r : Nat)  (Q : Exit → Act → World → Prop) (a : Act) (h0 : SR [(0, .slice se EL ec), (1, .slice none 0 0), (5, .pointer (some ⟨r, 0, none⟩))] 52 [] W a W)
    (hQ : ∀ a, SR [(0, .slice se EL ec), (1, .slice none 0 0), (5, .pointer (some ⟨r, 0, none⟩)), (6, .int .i64 0)] 52 [] (W) a (W) → Q .normal a (W)) : (regOf 2 C12).wpIn Fence.wide n Try.prog Q a W := by
  simp only [regOf, C12, Try.f12, Option.getD, Nat.reduceBEq, Bool.false_eq_true, if_true, if_false]
  refine region_sq (fun k_ a w => match k_ with | 0 => SR [(0, .slice se EL ec), (1, .slice none 0 0), (5, .pointer (some ⟨r, 0, none⟩))] 52 [] (W) a w | _ => SR [(0, .slice se EL ec), (1, .slice none 0 0), (5, .pointer (some ⟨r, 0, none⟩)), (6, .int .i64 0)] 52 [] (W) a w) (show SR _ _ _ _ a W from h0) ⟨?_, trivial⟩ ?_
  · intro a w hI
    have hI : SR _ _ _ _ a w := hI
    have hw : w = W := hI.wp
    subst hw
    go_simp
    exact hI.put (d := 6) (by decide) (by simp)
  · intro a w hI
    have hI : SR _ _ _ _ a w := hI
    have hw : w = W := hI.wp
    subst hw
    exact hQ a hI
set_option maxRecDepth 100000 in
set_option maxHeartbeats 4000000 in
theorem of3 (n : Nat) (W : World) (se : Option Addr) (EL ec : Nat) (r : Nat) (i : Nat)  (Q : Exit → Act → World → Prop) (a : Act) (h0 : SR [(0, .slice se EL ec), (1, .slice none 0 0), (5, .pointer (some ⟨r, 0, none⟩)), (6, .int .i64 i)] 52 [] W a W)
    (hQ : ∀ a, SR [(0, .slice se EL ec), (1, .slice none 0 0), (5, .pointer (some ⟨r, 0, none⟩)), (6, .int .i64 i), (13, .bool (decide ((i : Int) < EL)))] 52 [] (W) a (W) → Q .normal a (W)) : (regOf 3 C12).wpIn Fence.wide n Try.prog Q a W := by
  simp only [regOf, C12, Try.f12, Option.getD, Nat.reduceBEq, Bool.false_eq_true, if_true, if_false]
  refine region_sq (fun k_ a w => match k_ with | 0 => SR [(0, .slice se EL ec), (1, .slice none 0 0), (5, .pointer (some ⟨r, 0, none⟩)), (6, .int .i64 i)] 52 [] (W) a w | 1 => SR [(0, .slice se EL ec), (1, .slice none 0 0), (5, .pointer (some ⟨r, 0, none⟩)), (6, .int .i64 i), (10, .int .i64 i)] 52 [] (W) a w | 2 => SR [(0, .slice se EL ec), (1, .slice none 0 0), (5, .pointer (some ⟨r, 0, none⟩)), (6, .int .i64 i), (10, .int .i64 i), (11, .slice se EL ec)] 52 [] (W) a w | 3 => SR [(0, .slice se EL ec), (1, .slice none 0 0), (5, .pointer (some ⟨r, 0, none⟩)), (6, .int .i64 i), (10, .int .i64 i), (12, .int .i64 EL)] 52 [] (W) a w | _ => SR [(0, .slice se EL ec), (1, .slice none 0 0), (5, .pointer (some ⟨r, 0, none⟩)), (6, .int .i64 i), (13, .bool (decide ((i : Int) < EL)))] 52 [] (W) a w) (show SR _ _ _ _ a W from h0) ⟨?_, ?_, ?_, ?_, trivial⟩ ?_
  · intro a w hI
    have hI : SR _ _ _ _ a w := hI
    have e6 := hI.g 6 rfl
    have hw : w = W := hI.wp
    subst hw
    go_simp
    exact hI.put (d := 10) (by decide) (by simp)
  · intro a w hI
    have hI : SR _ _ _ _ a w := hI
    have e0 := hI.g 0 rfl
    have hw : w = W := hI.wp
    subst hw
    go_simp
    exact hI.put (d := 11) (by decide) (by simp)
  · intro a w hI
    have hI : SR _ _ _ _ a w := hI
    have e11 := hI.g 11 rfl
    have hw : w = W := hI.wp
    subst hw
    go_simp
    exact hI.put (d := 12) (by decide) (by simp)
  · intro a w hI
    have hI : SR _ _ _ _ a w := hI
    have e10 := hI.g 10 rfl
    have e12 := hI.g 12 rfl
    have hw : w = W := hI.wp
    subst hw
    go_simp
    exact hI.put (d := 13) (by decide) (by simp)
  · intro a w hI
    have hI : SR _ _ _ _ a w := hI
    have hw : w = W := hI.wp
    subst hw
    exact hQ a hI
set_option maxRecDepth 100000 in
set_option maxHeartbeats 4000000 in
theorem of4 (n : Nat) (W : World) (se : Option Addr) (EL ec : Nat) (r : Nat) (i : Nat) (hi : i < EL) (hL : EL ≤ 4294967296) (Q : Exit → Act → World → Prop) (a : Act) (h0 : SR [(0, .slice se EL ec), (1, .slice none 0 0), (5, .pointer (some ⟨r, 0, none⟩)), (6, .int .i64 i)] 52 [] W a W)
    (hQ : ∀ a, SR [(0, .slice se EL ec), (1, .slice none 0 0), (5, .pointer (some ⟨r, 0, none⟩)), (6, .int .i64 ((i : Int) + 1))] 52 [] (W) a (W) → Q .normal a (W)) : (regOf 4 C12).wpIn Fence.wide n Try.prog Q a W := by
  simp only [regOf, C12, Try.f12, Option.getD, Nat.reduceBEq, Bool.false_eq_true, if_true, if_false]
  refine region_sq (fun k_ a w => match k_ with | 0 => SR [(0, .slice se EL ec), (1, .slice none 0 0), (5, .pointer (some ⟨r, 0, none⟩)), (6, .int .i64 i)] 52 [] (W) a w | 1 => SR [(0, .slice se EL ec), (1, .slice none 0 0), (5, .pointer (some ⟨r, 0, none⟩)), (14, .int .i64 i)] 52 [] (W) a w | 2 => SR [(0, .slice se EL ec), (1, .slice none 0 0), (5, .pointer (some ⟨r, 0, none⟩)), (15, .int .i64 ((i : Int) + 1))] 52 [] (W) a w | _ => SR [(0, .slice se EL ec), (1, .slice none 0 0), (5, .pointer (some ⟨r, 0, none⟩)), (6, .int .i64 ((i : Int) + 1))] 52 [] (W) a w) (show SR _ _ _ _ a W from h0) ⟨?_, ?_, ?_, trivial⟩ ?_
  · intro a w hI
    have hI : SR _ _ _ _ a w := hI
    have e6 := hI.g 6 rfl
    have hw : w = W := hI.wp
    subst hw
    go_simp
    exact hI.put (d := 14) (by decide) (by simp)
  · intro a w hI
    have hI : SR _ _ _ _ a w := hI
    have e14 := hI.g 14 rfl
    have hw : w = W := hI.wp
    subst hw
    have hw1 : IntKind.i64.wrap ((i : Int) + 1) = (i : Int) + 1 := IntWalk.i64_in _ (by omega)
    go_simp
    exact hI.put (d := 15) (by decide) (by simp)
  · intro a w hI
    have hI : SR _ _ _ _ a w := hI
    have e15 := hI.g 15 rfl
    have hw : w = W := hI.wp
    subst hw
    go_simp
    exact hI.put (d := 6) (by decide) (by simp)
  · intro a w hI
    have hI : SR _ _ _ _ a w := hI
    have hw : w = W := hI.wp
    subst hw
    exact hQ a hI
set_option maxRecDepth 100000 in
set_option maxHeartbeats 4000000 in
theorem of5 (n : Nat) (W : World) (ge eo EL ec : Nat) (r : Nat) (i : Nat) (at_ : Int) (x : Nat) (hx : at_ % 4096 = (x : Int)) (hi : i < EL)  (k0 : W.cell? ⟨ge, eo + i * 5, none⟩ = some (.int .i64 at_)) (Q : Exit → Act → World → Prop) (a : Act) (h0 : SR [(0, .slice (some ⟨ge, eo, none⟩) EL ec), (1, .slice none 0 0), (5, .pointer (some ⟨r, 0, none⟩)), (6, .int .i64 i)] 52 [] W a W)
    (hQ : ∀ a, SR [(0, .slice (some ⟨ge, eo, none⟩) EL ec), (1, .slice none 0 0), (5, .pointer (some ⟨r, 0, none⟩)), (6, .int .i64 i), (7, .int .i64 x)] 52 [] (W) a (W) → Q .normal a (W)) : (regOf 5 C12).wpIn Fence.wide n Try.prog Q a W := by
  simp only [regOf, C12, Try.f12, Option.getD, Nat.reduceBEq, Bool.false_eq_true, if_true, if_false]
  refine region_sq (fun k_ a w => match k_ with | 0 => SR [(0, .slice (some ⟨ge, eo, none⟩) EL ec), (1, .slice none 0 0), (5, .pointer (some ⟨r, 0, none⟩)), (6, .int .i64 i)] 52 [] (W) a w | 1 => SR [(0, .slice (some ⟨ge, eo, none⟩) EL ec), (1, .slice none 0 0), (5, .pointer (some ⟨r, 0, none⟩)), (6, .int .i64 i), (16, .slice (some ⟨ge, eo, none⟩) EL ec)] 52 [] (W) a w | 2 => SR [(0, .slice (some ⟨ge, eo, none⟩) EL ec), (1, .slice none 0 0), (5, .pointer (some ⟨r, 0, none⟩)), (6, .int .i64 i), (16, .slice (some ⟨ge, eo, none⟩) EL ec), (17, .int .i64 i)] 52 [] (W) a w | 3 => SR [(0, .slice (some ⟨ge, eo, none⟩) EL ec), (1, .slice none 0 0), (5, .pointer (some ⟨r, 0, none⟩)), (6, .int .i64 i), (18, .pointer (some ⟨ge, eo + i * 5, none⟩))] 52 [] (W) a w | 4 => SR [(0, .slice (some ⟨ge, eo, none⟩) EL ec), (1, .slice none 0 0), (5, .pointer (some ⟨r, 0, none⟩)), (6, .int .i64 i), (19, .pointer (some ⟨ge, eo + i * 5, none⟩))] 52 [] (W) a w | 5 => SR [(0, .slice (some ⟨ge, eo, none⟩) EL ec), (1, .slice none 0 0), (5, .pointer (some ⟨r, 0, none⟩)), (6, .int .i64 i), (20, .int .i64 at_)] 52 [] (W) a w | 6 => SR [(0, .slice (some ⟨ge, eo, none⟩) EL ec), (1, .slice none 0 0), (5, .pointer (some ⟨r, 0, none⟩)), (6, .int .i64 i), (21, .int .i64 x)] 52 [] (W) a w | _ => SR [(0, .slice (some ⟨ge, eo, none⟩) EL ec), (1, .slice none 0 0), (5, .pointer (some ⟨r, 0, none⟩)), (6, .int .i64 i), (7, .int .i64 x)] 52 [] (W) a w) (show SR _ _ _ _ a W from h0) ⟨?_, ?_, ?_, ?_, ?_, ?_, ?_, trivial⟩ ?_
  · intro a w hI
    have hI : SR _ _ _ _ a w := hI
    have e0 := hI.g 0 rfl
    have hw : w = W := hI.wp
    subst hw
    go_simp
    exact hI.put (d := 16) (by decide) (by simp)
  · intro a w hI
    have hI : SR _ _ _ _ a w := hI
    have e6 := hI.g 6 rfl
    have hw : w = W := hI.wp
    subst hw
    go_simp
    exact hI.put (d := 17) (by decide) (by simp)
  · intro a w hI
    have hI : SR _ _ _ _ a w := hI
    have e16 := hI.g 16 rfl
    have e17 := hI.g 17 rfl
    have hw : w = W := hI.wp
    subst hw
    have q1_2 : (0 : Int) ≤ i := by omega
    have q2_2 : (i : Int) < EL := by omega
    go_simp
    exact hI.put (d := 18) (by decide) (by simp)
  · intro a w hI
    have hI : SR _ _ _ _ a w := hI
    have e18 := hI.g 18 rfl
    have hw : w = W := hI.wp
    subst hw
    go_simp
    exact hI.put (d := 19) (by decide) (by simp)
  · intro a w hI
    have hI : SR _ _ _ _ a w := hI
    have e19 := hI.g 19 rfl
    have hw : w = W := hI.wp
    subst hw
    go_simp
    exact hI.put (d := 20) (by decide) (by simp)
  · intro a w hI
    have hI : SR _ _ _ _ a w := hI
    have e20 := hI.g 20 rfl
    have hw : w = W := hI.wp
    subst hw
    have hb5 : Go.bits .and .i64 at_ 4095 = (x : Int) := (Sx.maskI at_ 12 (by decide)).trans hx
    go_simp
    exact hI.put (d := 21) (by decide) (by simp)
  · intro a w hI
    have hI : SR _ _ _ _ a w := hI
    have e21 := hI.g 21 rfl
    have hw : w = W := hI.wp
    subst hw
    go_simp
    exact hI.put (d := 7) (by decide) (by simp)
  · intro a w hI
    have hI : SR _ _ _ _ a w := hI
    have hw : w = W := hI.wp
    subst hw
    exact hQ a hI
set_option maxRecDepth 100000 in
set_option maxHeartbeats 4000000 in
theorem of6 (n : Nat) {G G1 : World → Prop} (hS : Stable G) (ge eo EL ec : Nat) (r : Nat) (i : Nat) (x : Nat) (k v : Int) (hx : x < 4096) (hi : i < EL)  (k1 : ∀ w, G w → w.cell? ⟨ge, eo + i * 5 + 1, none⟩ = some (.int .u8 k)) (k2 : ∀ w, G w → w.cell? ⟨ge, eo + i * 5 + 2, none⟩ = some (.int .u8 v)) (cw : ∀ w, G w → (∃ v, w.cell? ⟨r, x * 2, none⟩ = some v) ∧ ∃ v, w.cell? ⟨r, x * 2 + 1, none⟩ = some v) (fw : ∀ w, G w → w.frozen? ⟨r, x * 2, none⟩ = false ∧ w.frozen? ⟨r, x * 2 + 1, none⟩ = false) (hst : ∀ w, G w → G1 ((w.setCell ⟨r, x * 2, none⟩ (.int .u8 k)).setCell ⟨r, x * 2 + 1, none⟩ (.int .u8 v))) (Q : Exit → Act → World → Prop) (a : Act) (w : World) (h0 : SG [(0, .slice (some ⟨ge, eo, none⟩) EL ec), (1, .slice none 0 0), (5, .pointer (some ⟨r, 0, none⟩)), (6, .int .i64 i), (7, .int .i64 x)] 52 G a w)
    (hQ : ∀ a w, SG [(0, .slice (some ⟨ge, eo, none⟩) EL ec), (1, .slice none 0 0), (5, .pointer (some ⟨r, 0, none⟩)), (6, .int .i64 i), (7, .int .i64 x)] 52 G1 a w → Q .normal a w) : (regOf 6 C12).wpIn Fence.wide n Try.prog Q a w := by
  have hmix : Try.prog.follows .mixedOrders = true := by kernel_rfl
  simp only [regOf, C12, Try.f12, Option.getD, Nat.reduceBEq, Bool.false_eq_true, if_true, if_false]
  refine region_inv (RI [(0, .slice (some ⟨ge, eo, none⟩) EL ec), (1, .slice none 0 0), (5, .pointer (some ⟨r, 0, none⟩)), (6, .int .i64 i), (7, .int .i64 x)]
    [(0, 22, .pointer (some ⟨r, 0, none⟩)), (1, 23, .int .i64 x), (2, 24, .slice (some ⟨ge, eo, none⟩) EL ec), (3, 25, .int .i64 i), (4, 26, .pointer (some ⟨ge, eo + i * 5, none⟩)), (5, 27, .pointer (some ⟨ge, eo + i * 5 + 1, none⟩)), (6, 28, .agg #[.int .u8 k, .int .u8 v]), (7, 29, .pointer (some ⟨r, 0, none⟩)), (8, 30, .pointer (some ⟨r, 0, none⟩)), (9, 31, .pointer (some ⟨r, x * 2, none⟩))] 52 [] (fun Xs w => (Xs 10 = false → G w) ∧ (Xs 10 = true → G1 w))) hmix (by kernel_rfl) ⟨h0.size, h0.defers, h0.kn, by simp, fun _ => hS _ _ h0.wp (Below.refl _ _).drew, fun h => by cases h⟩ ⟨?_, ?_, ?_, ?_, ?_, ?_, ?_, ?_, ?_, ?_, ?_, trivial⟩ ?_
  · intro Xs a w hX hdep hC hI
    have e5 := hI.gi 5 rfl
    have ns : Xs 10 = false := by
        cases y10 : Xs 10 with
        | false => rfl
        | true =>
          have y0 := hC 10 _ rfl y10 ⟨0, .phase⟩ (by simp) rfl
          rw [hX] at y0; cases y0
    have hg := hI.wp.1 ns
    have hw2 : ∀ {d w}, G w → d ≠ 10 → (addX Xs d 10 = false → G w) ∧ (addX Xs d 10 = true → G1 w) := fun hg hd => ⟨fun _ => hg, fun h => by simp [addX, ns, hd.symm] at h⟩
    clear ns
    go_simp
    exact hI.put' (k := 0) (d := 22) (by decide) (by simp) (by simp) (by simp) (hw2 hg (by decide))
  · intro Xs a w hX hdep hC hI
    have e7 := hI.gi 7 rfl
    have ns : Xs 10 = false := by
        cases y10 : Xs 10 with
        | false => rfl
        | true =>
          have y1 := hC 10 _ rfl y10 ⟨1, .phase⟩ (by simp) rfl
          rw [hX] at y1; cases y1
    have hg := hI.wp.1 ns
    have hw2 : ∀ {d w}, G w → d ≠ 10 → (addX Xs d 10 = false → G w) ∧ (addX Xs d 10 = true → G1 w) := fun hg hd => ⟨fun _ => hg, fun h => by simp [addX, ns, hd.symm] at h⟩
    clear ns
    go_simp
    exact hI.put' (k := 1) (d := 23) (by decide) (by simp) (by simp) (by simp) (hw2 hg (by decide))
  · intro Xs a w hX hdep hC hI
    have e0 := hI.gi 0 rfl
    have ns : Xs 10 = false := by
        cases y10 : Xs 10 with
        | false => rfl
        | true =>
          have y2 := hC 10 _ rfl y10 ⟨2, .phase⟩ (by simp) rfl
          rw [hX] at y2; cases y2
    have hg := hI.wp.1 ns
    have hw2 : ∀ {d w}, G w → d ≠ 10 → (addX Xs d 10 = false → G w) ∧ (addX Xs d 10 = true → G1 w) := fun hg hd => ⟨fun _ => hg, fun h => by simp [addX, ns, hd.symm] at h⟩
    clear ns
    go_simp
    exact hI.put' (k := 2) (d := 24) (by decide) (by simp) (by simp) (by simp) (hw2 hg (by decide))
  · intro Xs a w hX hdep hC hI
    have e6 := hI.gi 6 rfl
    have ns : Xs 10 = false := by
        cases y10 : Xs 10 with
        | false => rfl
        | true =>
          have y3 := hC 10 _ rfl y10 ⟨3, .phase⟩ (by simp) rfl
          rw [hX] at y3; cases y3
    have hg := hI.wp.1 ns
    have hw2 : ∀ {d w}, G w → d ≠ 10 → (addX Xs d 10 = false → G w) ∧ (addX Xs d 10 = true → G1 w) := fun hg hd => ⟨fun _ => hg, fun h => by simp [addX, ns, hd.symm] at h⟩
    clear ns
    go_simp
    exact hI.put' (k := 3) (d := 25) (by decide) (by simp) (by simp) (by simp) (hw2 hg (by decide))
  · intro Xs a w hX hdep hC hI
    have x2 : Xs 2 = true := hdep ⟨2, .data⟩ (by simp) rfl
    have e24 := hI.gk 2 rfl x2
    have x3 : Xs 3 = true := hdep ⟨3, .data⟩ (by simp) rfl
    have e25 := hI.gk 3 rfl x3
    have ns : Xs 10 = false := by
        cases y10 : Xs 10 with
        | false => rfl
        | true =>
          have y4 := hC 10 _ rfl y10 ⟨4, .phase⟩ (by simp) rfl
          rw [hX] at y4; cases y4
    have hg := hI.wp.1 ns
    have q1_4 : (0 : Int) ≤ i := by omega
    have q2_4 : (i : Int) < EL := by omega
    have hw2 : ∀ {d w}, G w → d ≠ 10 → (addX Xs d 10 = false → G w) ∧ (addX Xs d 10 = true → G1 w) := fun hg hd => ⟨fun _ => hg, fun h => by simp [addX, ns, hd.symm] at h⟩
    clear ns
    go_simp
    exact hI.put' (k := 4) (d := 26) (by decide) (by simp) (by simp) (by simp) (hw2 hg (by decide))
  · intro Xs a w hX hdep hC hI
    have x4 : Xs 4 = true := hdep ⟨4, .data⟩ (by simp) rfl
    have e26 := hI.gk 4 rfl x4
    have ns : Xs 10 = false := by
        cases y10 : Xs 10 with
        | false => rfl
        | true =>
          have y5 := hC 10 _ rfl y10 ⟨5, .phase⟩ (by simp) rfl
          rw [hX] at y5; cases y5
    have hg := hI.wp.1 ns
    have hw2 : ∀ {d w}, G w → d ≠ 10 → (addX Xs d 10 = false → G w) ∧ (addX Xs d 10 = true → G1 w) := fun hg hd => ⟨fun _ => hg, fun h => by simp [addX, ns, hd.symm] at h⟩
    clear ns
    go_simp
    exact hI.put' (k := 5) (d := 27) (by decide) (by simp) (by simp) (by simp) (hw2 hg (by decide))
  · intro Xs a w hX hdep hC hI
    have x5 : Xs 5 = true := hdep ⟨5, .data⟩ (by simp) rfl
    have e27 := hI.gk 5 rfl x5
    have ns : Xs 10 = false := by
        cases y10 : Xs 10 with
        | false => rfl
        | true =>
          have y6 := hC 10 _ rfl y10 ⟨6, .data⟩ (by simp) rfl
          rw [hX] at y6; cases y6
    have hg := hI.wp.1 ns
    have cc0 := k1 w hg
    have cc1 := k2 w hg
    have hw2 : ∀ {d w}, G w → d ≠ 10 → (addX Xs d 10 = false → G w) ∧ (addX Xs d 10 = true → G1 w) := fun hg hd => ⟨fun _ => hg, fun h => by simp [addX, ns, hd.symm] at h⟩
    clear ns
    go_simp
    exact hI.put' (k := 6) (d := 28) (by decide) (by simp) (by simp) (by simp) (hw2 hg (by decide))
  · intro Xs a w hX hdep hC hI
    have x0 : Xs 0 = true := hdep ⟨0, .data⟩ (by simp) rfl
    have e22 := hI.gk 0 rfl x0
    have ns : Xs 10 = false := by
        cases y10 : Xs 10 with
        | false => rfl
        | true =>
          have y9 := hC 10 _ rfl y10 ⟨9, .data⟩ (by simp) rfl
          have y8 := hC 9 _ rfl y9 ⟨8, .data⟩ (by simp) rfl
          have y7 := hC 8 _ rfl y8 ⟨7, .data⟩ (by simp) rfl
          rw [hX] at y7; cases y7
    have hg := hI.wp.1 ns
    have hw2 : ∀ {d w}, G w → d ≠ 10 → (addX Xs d 10 = false → G w) ∧ (addX Xs d 10 = true → G1 w) := fun hg hd => ⟨fun _ => hg, fun h => by simp [addX, ns, hd.symm] at h⟩
    clear ns
    go_simp
    exact hI.put' (k := 7) (d := 29) (by decide) (by simp) (by simp) (by simp) (hw2 hg (by decide))
  · intro Xs a w hX hdep hC hI
    have x7 : Xs 7 = true := hdep ⟨7, .data⟩ (by simp) rfl
    have e29 := hI.gk 7 rfl x7
    have ns : Xs 10 = false := by
        cases y10 : Xs 10 with
        | false => rfl
        | true =>
          have y9 := hC 10 _ rfl y10 ⟨9, .data⟩ (by simp) rfl
          have y8 := hC 9 _ rfl y9 ⟨8, .data⟩ (by simp) rfl
          rw [hX] at y8; cases y8
    have hg := hI.wp.1 ns
    have hw2 : ∀ {d w}, G w → d ≠ 10 → (addX Xs d 10 = false → G w) ∧ (addX Xs d 10 = true → G1 w) := fun hg hd => ⟨fun _ => hg, fun h => by simp [addX, ns, hd.symm] at h⟩
    clear ns
    go_simp
    exact hI.put' (k := 8) (d := 30) (by decide) (by simp) (by simp) (by simp) (hw2 hg (by decide))
  · intro Xs a w hX hdep hC hI
    have x8 : Xs 8 = true := hdep ⟨8, .data⟩ (by simp) rfl
    have e30 := hI.gk 8 rfl x8
    have x1 : Xs 1 = true := hdep ⟨1, .data⟩ (by simp) rfl
    have e23 := hI.gk 1 rfl x1
    have ns : Xs 10 = false := by
        cases y10 : Xs 10 with
        | false => rfl
        | true =>
          have y9 := hC 10 _ rfl y10 ⟨9, .data⟩ (by simp) rfl
          rw [hX] at y9; cases y9
    have hg := hI.wp.1 ns
    have q1_9 : (0 : Int) ≤ x := by omega
    have q2_9 : (x : Int) < 4096 := by omega
    have hw2 : ∀ {d w}, G w → d ≠ 10 → (addX Xs d 10 = false → G w) ∧ (addX Xs d 10 = true → G1 w) := fun hg hd => ⟨fun _ => hg, fun h => by simp [addX, ns, hd.symm] at h⟩
    clear ns
    go_simp
    exact hI.put' (k := 9) (d := 31) (by decide) (by simp) (by simp) (by simp) (hw2 hg (by decide))
  · intro Xs a w hX hdep hC hI
    have x9 : Xs 9 = true := hdep ⟨9, .data⟩ (by simp) rfl
    have e31 := hI.gk 9 rfl x9
    have x6 : Xs 6 = true := hdep ⟨6, .data⟩ (by simp) rfl
    have e28 := hI.gk 6 rfl x6
    have hg := hI.wp.1 hX
    obtain ⟨⟨v0, cw0⟩, v1, cw1⟩ := cw w hg
    obtain ⟨fw0, fw1⟩ := fw w hg
    go_simp
    exact hI.put_none' (k := 10) (by simp) ⟨fun h => by simp [addX] at h, fun _ => hst w hg⟩
  · intro Xs a w hX hI
    refine hQ a w ⟨hI.size, hI.defers, ?_, hI.wp.2 (hX 10 (by simp))⟩
    simp only [List.mem_cons, List.not_mem_nil, or_false, forall_eq_or_imp, forall_eq]
    exact ⟨hI.gi 0 rfl, hI.gi 1 rfl, hI.gi 5 rfl, hI.gi 6 rfl, hI.gi 7 rfl⟩
set_option maxRecDepth 100000 in
set_option maxHeartbeats 4000000 in
theorem of7 (n : Nat) {G G1 : World → Prop} (hS : Stable G) (ge eo EL ec : Nat) (r : Nat) (i : Nat) (x : Nat) (s m_ : Int) (hx : x < 4096) (hi : i < EL)  (k3 : ∀ w, G w → w.cell? ⟨ge, eo + i * 5 + 3, none⟩ = some (.int .u8 s)) (k4 : ∀ w, G w → w.cell? ⟨ge, eo + i * 5 + 4, none⟩ = some (.int .u8 m_)) (cw : ∀ w, G w → (∃ v, w.cell? ⟨r, 8192 + x * 2, none⟩ = some v) ∧ ∃ v, w.cell? ⟨r, 8192 + x * 2 + 1, none⟩ = some v) (fw : ∀ w, G w → w.frozen? ⟨r, 8192 + x * 2, none⟩ = false ∧ w.frozen? ⟨r, 8192 + x * 2 + 1, none⟩ = false) (hst : ∀ w, G w → G1 ((w.setCell ⟨r, 8192 + x * 2, none⟩ (.int .u8 s)).setCell ⟨r, 8192 + x * 2 + 1, none⟩ (.int .u8 m_))) (Q : Exit → Act → World → Prop) (a : Act) (w : World) (h0 : SG [(0, .slice (some ⟨ge, eo, none⟩) EL ec), (1, .slice none 0 0), (5, .pointer (some ⟨r, 0, none⟩)), (6, .int .i64 i), (7, .int .i64 x)] 52 G a w)
    (hQ : ∀ a w, SG [(0, .slice (some ⟨ge, eo, none⟩) EL ec), (1, .slice none 0 0), (5, .pointer (some ⟨r, 0, none⟩)), (6, .int .i64 i)] 52 G1 a w → Q .normal a w) : (regOf 7 C12).wpIn Fence.wide n Try.prog Q a w := by
  have hmix : Try.prog.follows .mixedOrders = true := by kernel_rfl
  simp only [regOf, C12, Try.f12, Option.getD, Nat.reduceBEq, Bool.false_eq_true, if_true, if_false]
  refine region_inv (RI [(0, .slice (some ⟨ge, eo, none⟩) EL ec), (1, .slice none 0 0), (5, .pointer (some ⟨r, 0, none⟩)), (6, .int .i64 i), (7, .int .i64 x)]
    [(0, 32, .pointer (some ⟨r, 0, none⟩)), (1, 33, .int .i64 x), (2, 34, .slice (some ⟨ge, eo, none⟩) EL ec), (3, 35, .int .i64 i), (4, 36, .pointer (some ⟨ge, eo + i * 5, none⟩)), (5, 37, .pointer (some ⟨ge, eo + i * 5 + 3, none⟩)), (6, 38, .agg #[.int .u8 s, .int .u8 m_]), (7, 39, .pointer (some ⟨r, 0, none⟩)), (8, 40, .pointer (some ⟨r, 8192, none⟩)), (9, 41, .pointer (some ⟨r, 8192 + x * 2, none⟩))] 52 [] (fun Xs w => (Xs 10 = false → G w) ∧ (Xs 10 = true → G1 w))) hmix (by kernel_rfl) ⟨h0.size, h0.defers, h0.kn, by simp, fun _ => hS _ _ h0.wp (Below.refl _ _).drew, fun h => by cases h⟩ ⟨?_, ?_, ?_, ?_, ?_, ?_, ?_, ?_, ?_, ?_, ?_, trivial⟩ ?_
  · intro Xs a w hX hdep hC hI
    have e5 := hI.gi 5 rfl
    have ns : Xs 10 = false := by
        cases y10 : Xs 10 with
        | false => rfl
        | true =>
          have y0 := hC 10 _ rfl y10 ⟨0, .phase⟩ (by simp) rfl
          rw [hX] at y0; cases y0
    have hg := hI.wp.1 ns
    have hw2 : ∀ {d w}, G w → d ≠ 10 → (addX Xs d 10 = false → G w) ∧ (addX Xs d 10 = true → G1 w) := fun hg hd => ⟨fun _ => hg, fun h => by simp [addX, ns, hd.symm] at h⟩
    clear ns
    go_simp
    exact hI.put' (k := 0) (d := 32) (by decide) (by simp) (by simp) (by simp) (hw2 hg (by decide))
  · intro Xs a w hX hdep hC hI
    have e7 := hI.gi 7 rfl
    have ns : Xs 10 = false := by
        cases y10 : Xs 10 with
        | false => rfl
        | true =>
          have y1 := hC 10 _ rfl y10 ⟨1, .phase⟩ (by simp) rfl
          rw [hX] at y1; cases y1
    have hg := hI.wp.1 ns
    have hw2 : ∀ {d w}, G w → d ≠ 10 → (addX Xs d 10 = false → G w) ∧ (addX Xs d 10 = true → G1 w) := fun hg hd => ⟨fun _ => hg, fun h => by simp [addX, ns, hd.symm] at h⟩
    clear ns
    go_simp
    exact hI.put' (k := 1) (d := 33) (by decide) (by simp) (by simp) (by simp) (hw2 hg (by decide))
  · intro Xs a w hX hdep hC hI
    have e0 := hI.gi 0 rfl
    have ns : Xs 10 = false := by
        cases y10 : Xs 10 with
        | false => rfl
        | true =>
          have y2 := hC 10 _ rfl y10 ⟨2, .phase⟩ (by simp) rfl
          rw [hX] at y2; cases y2
    have hg := hI.wp.1 ns
    have hw2 : ∀ {d w}, G w → d ≠ 10 → (addX Xs d 10 = false → G w) ∧ (addX Xs d 10 = true → G1 w) := fun hg hd => ⟨fun _ => hg, fun h => by simp [addX, ns, hd.symm] at h⟩
    clear ns
    go_simp
    exact hI.put' (k := 2) (d := 34) (by decide) (by simp) (by simp) (by simp) (hw2 hg (by decide))
  · intro Xs a w hX hdep hC hI
    have e6 := hI.gi 6 rfl
    have ns : Xs 10 = false := by
        cases y10 : Xs 10 with
        | false => rfl
        | true =>
          have y3 := hC 10 _ rfl y10 ⟨3, .phase⟩ (by simp) rfl
          rw [hX] at y3; cases y3
    have hg := hI.wp.1 ns
    have hw2 : ∀ {d w}, G w → d ≠ 10 → (addX Xs d 10 = false → G w) ∧ (addX Xs d 10 = true → G1 w) := fun hg hd => ⟨fun _ => hg, fun h => by simp [addX, ns, hd.symm] at h⟩
    clear ns
    go_simp
    exact hI.put' (k := 3) (d := 35) (by decide) (by simp) (by simp) (by simp) (hw2 hg (by decide))
  · intro Xs a w hX hdep hC hI
    have x2 : Xs 2 = true := hdep ⟨2, .data⟩ (by simp) rfl
    have e34 := hI.gk 2 rfl x2
    have x3 : Xs 3 = true := hdep ⟨3, .data⟩ (by simp) rfl
    have e35 := hI.gk 3 rfl x3
    have ns : Xs 10 = false := by
        cases y10 : Xs 10 with
        | false => rfl
        | true =>
          have y4 := hC 10 _ rfl y10 ⟨4, .phase⟩ (by simp) rfl
          rw [hX] at y4; cases y4
    have hg := hI.wp.1 ns
    have q1_4 : (0 : Int) ≤ i := by omega
    have q2_4 : (i : Int) < EL := by omega
    have hw2 : ∀ {d w}, G w → d ≠ 10 → (addX Xs d 10 = false → G w) ∧ (addX Xs d 10 = true → G1 w) := fun hg hd => ⟨fun _ => hg, fun h => by simp [addX, ns, hd.symm] at h⟩
    clear ns
    go_simp
    exact hI.put' (k := 4) (d := 36) (by decide) (by simp) (by simp) (by simp) (hw2 hg (by decide))
  · intro Xs a w hX hdep hC hI
    have x4 : Xs 4 = true := hdep ⟨4, .data⟩ (by simp) rfl
    have e36 := hI.gk 4 rfl x4
    have ns : Xs 10 = false := by
        cases y10 : Xs 10 with
        | false => rfl
        | true =>
          have y5 := hC 10 _ rfl y10 ⟨5, .phase⟩ (by simp) rfl
          rw [hX] at y5; cases y5
    have hg := hI.wp.1 ns
    have hw2 : ∀ {d w}, G w → d ≠ 10 → (addX Xs d 10 = false → G w) ∧ (addX Xs d 10 = true → G1 w) := fun hg hd => ⟨fun _ => hg, fun h => by simp [addX, ns, hd.symm] at h⟩
    clear ns
    go_simp
    exact hI.put' (k := 5) (d := 37) (by decide) (by simp) (by simp) (by simp) (hw2 hg (by decide))
  · intro Xs a w hX hdep hC hI
    have x5 : Xs 5 = true := hdep ⟨5, .data⟩ (by simp) rfl
    have e37 := hI.gk 5 rfl x5
    have ns : Xs 10 = false := by
        cases y10 : Xs 10 with
        | false => rfl
        | true =>
          have y6 := hC 10 _ rfl y10 ⟨6, .data⟩ (by simp) rfl
          rw [hX] at y6; cases y6
    have hg := hI.wp.1 ns
    have cc0 := k3 w hg
    have cc1 := k4 w hg
    have hw2 : ∀ {d w}, G w → d ≠ 10 → (addX Xs d 10 = false → G w) ∧ (addX Xs d 10 = true → G1 w) := fun hg hd => ⟨fun _ => hg, fun h => by simp [addX, ns, hd.symm] at h⟩
    clear ns
    go_simp
    exact hI.put' (k := 6) (d := 38) (by decide) (by simp) (by simp) (by simp) (hw2 hg (by decide))
  · intro Xs a w hX hdep hC hI
    have x0 : Xs 0 = true := hdep ⟨0, .data⟩ (by simp) rfl
    have e32 := hI.gk 0 rfl x0
    have ns : Xs 10 = false := by
        cases y10 : Xs 10 with
        | false => rfl
        | true =>
          have y9 := hC 10 _ rfl y10 ⟨9, .data⟩ (by simp) rfl
          have y8 := hC 9 _ rfl y9 ⟨8, .data⟩ (by simp) rfl
          have y7 := hC 8 _ rfl y8 ⟨7, .data⟩ (by simp) rfl
          rw [hX] at y7; cases y7
    have hg := hI.wp.1 ns
    have hw2 : ∀ {d w}, G w → d ≠ 10 → (addX Xs d 10 = false → G w) ∧ (addX Xs d 10 = true → G1 w) := fun hg hd => ⟨fun _ => hg, fun h => by simp [addX, ns, hd.symm] at h⟩
    clear ns
    go_simp
    exact hI.put' (k := 7) (d := 39) (by decide) (by simp) (by simp) (by simp) (hw2 hg (by decide))
  · intro Xs a w hX hdep hC hI
    have x7 : Xs 7 = true := hdep ⟨7, .data⟩ (by simp) rfl
    have e39 := hI.gk 7 rfl x7
    have ns : Xs 10 = false := by
        cases y10 : Xs 10 with
        | false => rfl
        | true =>
          have y9 := hC 10 _ rfl y10 ⟨9, .data⟩ (by simp) rfl
          have y8 := hC 9 _ rfl y9 ⟨8, .data⟩ (by simp) rfl
          rw [hX] at y8; cases y8
    have hg := hI.wp.1 ns
    have hw2 : ∀ {d w}, G w → d ≠ 10 → (addX Xs d 10 = false → G w) ∧ (addX Xs d 10 = true → G1 w) := fun hg hd => ⟨fun _ => hg, fun h => by simp [addX, ns, hd.symm] at h⟩
    clear ns
    go_simp
    exact hI.put' (k := 8) (d := 40) (by decide) (by simp) (by simp) (by simp) (hw2 hg (by decide))
  · intro Xs a w hX hdep hC hI
    have x8 : Xs 8 = true := hdep ⟨8, .data⟩ (by simp) rfl
    have e40 := hI.gk 8 rfl x8
    have x1 : Xs 1 = true := hdep ⟨1, .data⟩ (by simp) rfl
    have e33 := hI.gk 1 rfl x1
    have ns : Xs 10 = false := by
        cases y10 : Xs 10 with
        | false => rfl
        | true =>
          have y9 := hC 10 _ rfl y10 ⟨9, .data⟩ (by simp) rfl
          rw [hX] at y9; cases y9
    have hg := hI.wp.1 ns
    have q1_9 : (0 : Int) ≤ x := by omega
    have q2_9 : (x : Int) < 4096 := by omega
    have hw2 : ∀ {d w}, G w → d ≠ 10 → (addX Xs d 10 = false → G w) ∧ (addX Xs d 10 = true → G1 w) := fun hg hd => ⟨fun _ => hg, fun h => by simp [addX, ns, hd.symm] at h⟩
    clear ns
    go_simp
    exact hI.put' (k := 9) (d := 41) (by decide) (by simp) (by simp) (by simp) (hw2 hg (by decide))
  · intro Xs a w hX hdep hC hI
    have x9 : Xs 9 = true := hdep ⟨9, .data⟩ (by simp) rfl
    have e41 := hI.gk 9 rfl x9
    have x6 : Xs 6 = true := hdep ⟨6, .data⟩ (by simp) rfl
    have e38 := hI.gk 6 rfl x6
    have hg := hI.wp.1 hX
    obtain ⟨⟨v0, cw0⟩, v1, cw1⟩ := cw w hg
    obtain ⟨fw0, fw1⟩ := fw w hg
    go_simp
    exact hI.put_none' (k := 10) (by simp) ⟨fun h => by simp [addX] at h, fun _ => hst w hg⟩
  · intro Xs a w hX hI
    refine hQ a w ⟨hI.size, hI.defers, ?_, hI.wp.2 (hX 10 (by simp))⟩
    simp only [List.mem_cons, List.not_mem_nil, or_false, forall_eq_or_imp, forall_eq]
    exact ⟨hI.gi 0 rfl, hI.gi 1 rfl, hI.gi 5 rfl, hI.gi 6 rfl⟩
set_option maxRecDepth 100000 in
set_option maxHeartbeats 4000000 in
theorem of8 (n : Nat) (W : World) (se : Option Addr) (EL ec : Nat) (r : Nat)  (fw : W.frozen? ⟨r, 16384, none⟩ = false) (cw : W.cell? ⟨r, 16384, none⟩ = some (.slice none 0 0))  (k6 : W.cell? ⟨r, 16384, none⟩ = some (.slice none 0 0)) (Q : Exit → Act → World → Prop) (a : Act) (h0 : SR [(0, .slice se EL ec), (1, .slice none 0 0), (5, .pointer (some ⟨r, 0, none⟩))] 52 [] W a W)
    (hQ : ∀ a, SR [(5, .pointer (some ⟨r, 0, none⟩))] 52 [] (W.setCell ⟨r, 16384, none⟩ (.slice none 0 0)) a (W.setCell ⟨r, 16384, none⟩ (.slice none 0 0)) → Q .normal a (W.setCell ⟨r, 16384, none⟩ (.slice none 0 0))) : (regOf 8 C12).wpIn Fence.wide n Try.prog Q a W := by
  simp only [regOf, C12, Try.f12, Option.getD, Nat.reduceBEq, Bool.false_eq_true, if_true, if_false]
  refine region_sq (fun k_ a w => match k_ with | 0 => SR [(1, .slice none 0 0), (5, .pointer (some ⟨r, 0, none⟩))] 52 [] (W) a w | 1 => SR [(1, .slice none 0 0), (5, .pointer (some ⟨r, 0, none⟩)), (42, .pointer (some ⟨r, 0, none⟩))] 52 [] (W) a w | 2 => SR [(1, .slice none 0 0), (5, .pointer (some ⟨r, 0, none⟩)), (42, .pointer (some ⟨r, 0, none⟩)), (43, .pointer (some ⟨r, 0, none⟩))] 52 [] (W) a w | 3 => SR [(1, .slice none 0 0), (5, .pointer (some ⟨r, 0, none⟩)), (42, .pointer (some ⟨r, 0, none⟩)), (44, .pointer (some ⟨r, 0, none⟩))] 52 [] (W) a w | 4 => SR [(1, .slice none 0 0), (5, .pointer (some ⟨r, 0, none⟩)), (42, .pointer (some ⟨r, 0, none⟩)), (45, .pointer (some ⟨r, 16384, none⟩))] 52 [] (W) a w | 5 => SR [(1, .slice none 0 0), (5, .pointer (some ⟨r, 0, none⟩)), (42, .pointer (some ⟨r, 0, none⟩)), (46, .slice none 0 0)] 52 [] (W) a w | 6 => SR [(5, .pointer (some ⟨r, 0, none⟩)), (42, .pointer (some ⟨r, 0, none⟩)), (46, .slice none 0 0), (47, .slice none 0 0)] 52 [] (W) a w | 7 => SR [(5, .pointer (some ⟨r, 0, none⟩)), (42, .pointer (some ⟨r, 0, none⟩)), (48, .slice none 0 0)] 52 [] (W) a w | 8 => SR [(5, .pointer (some ⟨r, 0, none⟩)), (48, .slice none 0 0), (49, .pointer (some ⟨r, 0, none⟩))] 52 [] (W) a w | 9 => SR [(5, .pointer (some ⟨r, 0, none⟩)), (48, .slice none 0 0), (50, .pointer (some ⟨r, 16384, none⟩))] 52 [] (W) a w | _ => SR [(5, .pointer (some ⟨r, 0, none⟩))] 52 [] (W.setCell ⟨r, 16384, none⟩ (.slice none 0 0)) a w) (show SR _ _ _ _ a W from h0.sub (by intro p hp; simp only [List.mem_cons, List.not_mem_nil, or_false] at hp ⊢; rcases hp with h | h <;> simp [h])) ⟨?_, ?_, ?_, ?_, ?_, ?_, ?_, ?_, ?_, ?_, trivial⟩ ?_
  · intro a w hI
    have hI : SR _ _ _ _ a w := hI
    have e5 := hI.g 5 rfl
    have hw : w = W := hI.wp
    subst hw
    go_simp
    exact hI.put (d := 42) (by decide) (by simp)
  · intro a w hI
    have hI : SR _ _ _ _ a w := hI
    have e5 := hI.g 5 rfl
    have hw : w = W := hI.wp
    subst hw
    go_simp
    exact hI.put (d := 43) (by decide) (by simp)
  · intro a w hI
    have hI : SR _ _ _ _ a w := hI
    have e43 := hI.g 43 rfl
    have hw : w = W := hI.wp
    subst hw
    go_simp
    exact hI.put (d := 44) (by decide) (by simp)
  · intro a w hI
    have hI : SR _ _ _ _ a w := hI
    have e44 := hI.g 44 rfl
    have hw : w = W := hI.wp
    subst hw
    go_simp
    exact hI.put (d := 45) (by decide) (by simp)
  · intro a w hI
    have hI : SR _ _ _ _ a w := hI
    have e45 := hI.g 45 rfl
    have hw : w = W := hI.wp
    subst hw
    go_simp
    exact hI.put (d := 46) (by decide) (by simp)
  · intro a w hI
    have hI : SR _ _ _ _ a w := hI
    have e1 := hI.g 1 rfl
    have hw : w = W := hI.wp
    subst hw
    go_simp
    exact hI.put (d := 47) (by decide) (by simp)
  · intro a w hI
    have hI : SR _ _ _ _ a w := hI
    have e46 := hI.g 46 rfl
    have e47 := hI.g 47 rfl
    have hw : w = W := hI.wp
    subst hw
    go_simp
    exact hI.put (d := 48) (by decide) (by simp)
  · intro a w hI
    have hI : SR _ _ _ _ a w := hI
    have e42 := hI.g 42 rfl
    have hw : w = W := hI.wp
    subst hw
    go_simp
    exact hI.put (d := 49) (by decide) (by simp)
  · intro a w hI
    have hI : SR _ _ _ _ a w := hI
    have e49 := hI.g 49 rfl
    have hw : w = W := hI.wp
    subst hw
    go_simp
    exact hI.put (d := 50) (by decide) (by simp)
  · intro a w hI
    have hI : SR _ _ _ _ a w := hI
    have e50 := hI.g 50 rfl
    have e48 := hI.g 48 rfl
    have hw : w = W := hI.wp
    subst hw
    go_simp
    exact SR.sub (kn' := [(5, .pointer (some ⟨r, 0, none⟩))]) hI.none (by intro p hp; simp only [List.mem_cons, List.not_mem_nil, or_false] at hp ⊢; simp [hp])
  · intro a w hI
    have hI : SR _ _ _ _ a w := hI
    obtain rfl := hI.wp
    exact hQ a hI
set_option maxRecDepth 100000 in
set_option maxHeartbeats 4000000 in
theorem of9 (n : Nat) (W : World) (r : Nat) (Q : Exit → Act → World → Prop) (a : Act) (h0 : SR [(5, .pointer (some ⟨r, 0, none⟩))] 52 [] W a W)
    (hQ : ∀ a, SR [(4, .pointer (some ⟨r, 0, none⟩))] 52 [] (W) a (W) → Q .normal a (W)) : (regOf 9 C12).wpIn Fence.wide n Try.prog Q a W := by
  simp only [regOf, C12, Try.f12, Option.getD, Nat.reduceBEq, Bool.false_eq_true, if_true, if_false]
  refine region_sq (fun k_ a w => match k_ with | 0 => SR [(5, .pointer (some ⟨r, 0, none⟩))] 52 [] (W) a w | 1 => SR [(51, .pointer (some ⟨r, 0, none⟩))] 52 [] (W) a w | _ => SR [(4, .pointer (some ⟨r, 0, none⟩))] 52 [] (W) a w) (show SR _ _ _ _ a W from h0) ⟨?_, ?_, trivial⟩ ?_
  · intro a w hI
    have hI : SR _ _ _ _ a w := hI
    have e5 := hI.g 5 rfl
    have hw : w = W := hI.wp
    subst hw
    go_simp
    exact hI.put (d := 51) (by decide) (by simp)
  · intro a w hI
    have hI : SR _ _ _ _ a w := hI
    have e51 := hI.g 51 rfl
    have hw : w = W := hI.wp
    subst hw
    go_simp
    exact hI.put (d := 4) (by decide) (by simp)
  · intro a w hI
    have hI : SR _ _ _ _ a w := hI
    have hw : w = W := hI.wp
    subst hw
    exact hQ a hI
/-! ### A chunk of edits -/
structure Ed where
  at_ : Int
  k : Int
  v : Int
  s : Int
  m_ : Int
def Ed.x (e : Ed) : Nat := (e.at_ % 4096).toNat
theorem Ed.x_lt (e : Ed) : e.x < 4096 := by unfold Ed.x; omega
theorem Ed.x_eq (e : Ed) : e.at_ % 4096 = (e.x : Int) := by unfold Ed.x; omega
def Ed.ok (e : Ed) : Prop := U8 e.k ∧ U8 e.v ∧ U8 e.s ∧ U8 e.m_
def ofA : List Ed → (Nat → Int) → Nat → Int
  | [], A => A
  | e :: t, A => ofA t (upd2 A e.x e.k e.v)
def ofB : List Ed → (Nat → Int) → Nat → Int
  | [], B => B
  | e :: t, B => ofB t (upd2 B e.x e.s e.m_)
theorem byt_upd {A : Nat → Int} (h : Byt A) {i : Nat} {k v : Int} (hk : U8 k) (hv : U8 v) : Byt (upd2 A i k v) := fun j => by
  unfold upd2
  split
  · exact hk
  · split
    · exact hv
    · exact h j
theorem byt_ofA : ∀ {es : List Ed} {A : Nat → Int}, (∀ e ∈ es, e.ok) → Byt A → Byt (ofA es A)
  | [], _, _, h => h
  | e :: t, A, he, h => byt_ofA (es := t) (fun e' h' => he e' (List.mem_cons_of_mem _ h')) (byt_upd h (he e List.mem_cons_self).1 (he e List.mem_cons_self).2.1)
/-- A row of edits. -/
structure EdIn (w : World) (se : Option Addr) (ge eo : Nat) (es : List Ed) : Prop where
  gp : 0 < es.length → se = some ⟨ge, eo, none⟩ ∧ ge < w.heap.size
  cells : ∀ i e, es[i]? = some e → w.cell? ⟨ge, eo + i * 5, none⟩ = some (.int .i64 e.at_) ∧ w.cell? ⟨ge, eo + i * 5 + 1, none⟩ = some (.int .u8 e.k) ∧ w.cell? ⟨ge, eo + i * 5 + 2, none⟩ = some (.int .u8 e.v) ∧ w.cell? ⟨ge, eo + i * 5 + 3, none⟩ = some (.int .u8 e.s) ∧ w.cell? ⟨ge, eo + i * 5 + 4, none⟩ = some (.int .u8 e.m_)
  ok : ∀ e ∈ es, e.ok
theorem EdIn.below {w w' : World} {se : Option Addr} {ge eo : Nat} {es : List Ed} (h : EdIn w se ge eo es) (hb : Below w.heap.size w w') : EdIn w' se ge eo es where
  gp hl := ⟨(h.gp hl).1, Nat.lt_of_lt_of_le (h.gp hl).2 hb.size⟩
  cells i x hx := by
    have hl := (h.gp (by have := (List.getElem?_eq_some_iff.1 hx).1; omega)).2
    obtain ⟨h0, h1, h2, h3, h4⟩ := h.cells i x hx
    exact ⟨(hb.cell (p := ⟨ge, eo + i * 5, none⟩) hl).trans h0, (hb.cell (p := ⟨ge, eo + i * 5 + 1, none⟩) hl).trans h1, (hb.cell (p := ⟨ge, eo + i * 5 + 2, none⟩) hl).trans h2, (hb.cell (p := ⟨ge, eo + i * 5 + 3, none⟩) hl).trans h3, (hb.cell (p := ⟨ge, eo + i * 5 + 4, none⟩) hl).trans h4⟩
  ok := h.ok
theorem Ck.setT {cs : Array Value} {A B : Nat → Int} (h : Ck cs A B) : Ck (cs.setIfInBounds 16384 (.slice none 0 0)) A B := by
  have hs := h.size
  refine ⟨by simp [hs], fun j hj => ?_, fun j hj => ?_, ?_⟩
  · rw [Array.getElem?_setIfInBounds, if_neg (by omega)]; exact h.a j hj
  · rw [Array.getElem?_setIfInBounds, if_neg (by omega)]; exact h.b j hj
  · rw [Array.getElem?_setIfInBounds, if_pos rfl, if_pos (by omega)]
theorem C12_eq : C12 = .seq (regOf 0 C12) (.seq (regOf 1 C12) (.seq (.seq (regOf 2 C12) (.block 0 (.loop (.seq (.seq (regOf 3 C12) (.cond (.tmp 13) .skip (.exit 0))) (.seq (.block 1 (.seq (regOf 5 C12) (.seq (regOf 6 C12) (regOf 7 C12)))) (regOf 4 C12)))))) (.seq (regOf 8 C12) (.seq (regOf 9 C12) .ret)))) := by kernel_rfl
abbrev st12 (se : Option Addr) (EL ec r i : Nat) : List (Nat × Value) := [(0, .slice se EL ec), (1, .slice none 0 0), (5, ptr r), (6, .int .i64 i)]
set_option maxHeartbeats 4000000 in
theorem of_in {es : List Ed} {w : World} {se : Option Addr} {ge eo ec : Nat} (hE : EdIn w se ge eo es) (hL : es.length ≤ 100000) (n : Nat) : CallsIn Fence.wide n Try.prog 12 #[.slice se es.length ec, .slice none 0 0] w fun e w' =>
    ∃ r, e = .returned (ptr r) ∧ Below w.heap.size w w' ∧ w.heap.size ≤ r ∧ CkW w' r (ofA es fun _ => 0) (ofB es fun _ => 0) := by
  refine callsIn_of_wp Try.func12 rfl trivial ?_
  show C12.wpIn _ _ _ _ _ _
  rw [C12_eq]
  refine wpIn_seq (of0 n w se es.length ec _ _ ⟨by simp [Try.ntmps12], rfl, by simp [Try.ntmps12], rfl⟩ ?_)
  intro a1 h1
  refine wpIn_seq (of1 n w se es.length ec _ a1 h1 ?_)
  intro a2 h2
  have hH := (Has.start w).alloc (.cells Z49 49)
  obtain ⟨r, hr⟩ : ∃ r, r = w.heap.size := ⟨_, rfl⟩
  obtain ⟨w2, hw2⟩ : ∃ w2, w2 = w.alloc (.cells Z49 49) := ⟨_, rfl⟩
  rw [← hw2] at h2 hH ⊢
  rw [← hr] at h2 hH
  refine wpIn_seq (wpIn_seq (of2 n w2 se es.length ec r _ a2 h2 ?_))
  intro a3 h3
  refine wpIn_block (wpIn_loop (fun a w' => ∃ i cs A B, i ≤ es.length ∧ Ck cs A B ∧ ofA es (fun _ => 0) = ofA (es.drop i) A ∧ ofB es (fun _ => 0) = ofB (es.drop i) B ∧ SG (st12 se es.length ec r i) 52 (Has w [(r, .cells cs 49 (0, 0))]) a w') (fun a _ => es.length - slotN 6 a) ⟨0, Z49, _, _, Nat.zero_le _, ck_zero, rfl, rfl, h3.sg hH⟩ ?_)
  rintro a w4 ⟨i, cs, A, B, hi, hck, hA, hB, ha⟩
  have e6 := ha.slot (t := 6) (v := i) (k := .i64) (by simp)
  have hG := ha.wp
  refine wpIn_seq (wpIn_seq (of3 n w4 se es.length ec r i _ a ha.sr ?_))
  intro a5 h5
  by_cases hlt : i < es.length
  · refine wpIn_cond (t := true) (by rw [eval_tmp, h5.g 13 rfl, decide_eq_true (by omega)]) (wpIn_skip (wpIn_seq (wpIn_block ?_)))
    obtain ⟨rfl, hgl⟩ := hE.gp (by omega)
    obtain ⟨e, he⟩ : ∃ e, es[i]? = some e := ⟨es[i], List.getElem?_eq_getElem hlt⟩
    have hmem : e ∈ es := List.mem_of_getElem? he
    have hd : es.drop i = e :: es.drop (i + 1) := by rw [List.drop_eq_getElem_cons hlt]; rw [List.getElem?_eq_getElem hlt] at he; cases he; rfl
    rw [hd] at hA hB
    have cells : ∀ {bs w'}, Has w bs w' → _ := fun {bs w'} (hh : Has w bs w') => (hE.below hh.bel).cells i e he
    have hs := hck.size
    have hx := e.x_lt
    refine wpIn_seq (of5 n w4 ge eo es.length ec r i e.at_ e.x e.x_eq hlt (cells hG).1 _ a5 (h5.sub (by simp)) ?_)
    intro a6 h6
    have hck6 := hck.setA hx e.k e.v
    have hs6 := hck6.size
    have hck7 := hck6.setB hx e.s e.m_
    refine wpIn_seq (of6 n (Has.stable _ _) (G1 := Has w [(r, .cells ((cs.setIfInBounds (e.x * 2) (.int .u8 e.k)).setIfInBounds (e.x * 2 + 1) (.int .u8 e.v)) 49 (0, 0))]) ge eo es.length ec r i e.x e.k e.v hx hlt (fun w hw => (cells hw).2.1) (fun w hw => (cells hw).2.2.1)
      (fun w hw => ⟨hw.some (by omega), hw.some (by omega)⟩) (fun w hw => ⟨hw.free, hw.free⟩) (fun w hw => (hw.set _).set _) _ a6 w4 (h6.sg hG) ?_)
    intro a7 w7 h7
    refine of7 n (Has.stable _ _) (G1 := Has w [(r, .cells ((((cs.setIfInBounds (e.x * 2) (.int .u8 e.k)).setIfInBounds (e.x * 2 + 1) (.int .u8 e.v)).setIfInBounds (8192 + e.x * 2) (.int .u8 e.s)).setIfInBounds (8192 + e.x * 2 + 1) (.int .u8 e.m_)) 49 (0, 0))]) ge eo es.length ec r i e.x e.s e.m_ hx hlt (fun w hw => (cells hw).2.2.2.1) (fun w hw => (cells hw).2.2.2.2)
      (fun w hw => ⟨hw.some (by omega), hw.some (by omega)⟩) (fun w hw => ⟨hw.free, hw.free⟩) (fun w hw => (hw.set _).set _) _ a7 w7 h7 ?_
    intro a8 w8 h8
    have hG8 := h8.wp
    show (regOf 4 C12).wpIn _ _ _ _ _ _
    refine of4 n w8 (some ⟨ge, eo, none⟩) es.length ec r i hlt (by omega) _ a8 h8.sr ?_
    intro a9 h9
    have h9 : SG (st12 (some ⟨ge, eo, none⟩) es.length ec r (i + 1)) 52 _ a9 w8 := h9.sg hG8
    exact ⟨⟨i + 1, _, _, _, hlt, hck7, hA, hB, h9⟩, by rw [e6, h9.slot (t := 6) (v := i + 1) (k := .i64) (by simp)]; omega⟩
  · refine wpIn_cond (t := false) (by rw [eval_tmp, h5.g 13 rfl, decide_eq_false (by omega)]) (wpIn_exit ?_)
    obtain rfl : i = es.length := by omega
    rw [List.drop_length] at hA hB
    show (Code.seq (regOf 8 C12) _).wpIn _ _ _ _ _ _
    refine wpIn_seq (of8 n w4 se es.length ec r hG.free (hG.cell0 hck.t) (hG.cell0 hck.t) _ a5 (h5.sub (by simp)) ?_)
    intro a6 h6
    have hG6 := hG.set (m := 16384) (.slice none 0 0)
    refine wpIn_seq (of9 n _ r _ a6 h6 ?_)
    intro a7 h7
    refine wpIn_ret ⟨h7.defers, _, results_tmp (t := 4) rfl _ _ _, r, by rw [Array.getD_eq_getD_getElem?, h7.g 4 rfl], hG6.bel, hG6.new _ List.mem_cons_self, _, hG6.at0, ?_⟩
    rw [hA, hB]
    exact hck.setT
noncomputable def C35 : Code := Try.f35.body.getD .skip
set_option maxRecDepth 100000 in
set_option maxHeartbeats 4000000 in
theorem tk0 (n : Nat) (W : World)  (Q : Exit → Act → World → Prop) (a : Act) (h0 : SR [(0, .slice none 0 0), (1, .slice none 0 0)] 26 [] W a W)
    (hQ : ∀ a, SR [(0, .slice none 0 0), (1, .slice none 0 0)] 26 [] (W) a (W) → Q .normal a (W)) : (regOf 0 C35).wpIn Fence.wide n Try.prog Q a W := by
  simp only [regOf, C35, Try.f35, Option.getD, Nat.reduceBEq, Bool.false_eq_true, if_true, if_false]
  refine region_sq (fun k_ a w => match k_ with | 0 => SR [(0, .slice none 0 0), (1, .slice none 0 0)] 26 [] (W) a w | _ => SR [(0, .slice none 0 0), (1, .slice none 0 0)] 26 [] (W) a w) (show SR _ _ _ _ a W from h0) ⟨?_, trivial⟩ ?_
  · intro a w hI
    have hI : SR _ _ _ _ a w := hI
    have hw : w = W := hI.wp
    subst hw
    go_simp
    exact hI.put (d := 4) (by decide) (by simp)
  · intro a w hI
    have hI : SR _ _ _ _ a w := hI
    have hw : w = W := hI.wp
    subst hw
    exact hQ a hI
set_option maxRecDepth 100000 in
set_option maxHeartbeats 4000000 in
theorem tk1 (n : Nat) (W : World)  (Q : Exit → Act → World → Prop) (a : Act) (h0 : SR [(0, .slice none 0 0), (1, .slice none 0 0)] 26 [] W a W)
    (hQ : ∀ a, SR [(0, .slice none 0 0), (1, .slice none 0 0), (10, .bool false)] 26 [] (W) a (W) → Q .normal a (W)) : (regOf 1 C35).wpIn Fence.wide n Try.prog Q a W := by
  simp only [regOf, C35, Try.f35, Option.getD, Nat.reduceBEq, Bool.false_eq_true, if_true, if_false]
  refine region_sq (fun k_ a w => match k_ with | 0 => SR [(0, .slice none 0 0), (1, .slice none 0 0)] 26 [] (W) a w | 1 => SR [(0, .slice none 0 0), (1, .slice none 0 0), (6, .slice none 0 0)] 26 [] (W) a w | 2 => SR [(0, .slice none 0 0), (1, .slice none 0 0), (7, .int .i64 0)] 26 [] (W) a w | 3 => SR [(0, .slice none 0 0), (1, .slice none 0 0), (7, .int .i64 0), (8, .slice none 0 0)] 26 [] (W) a w | 4 => SR [(0, .slice none 0 0), (1, .slice none 0 0), (7, .int .i64 0), (9, .int .i64 0)] 26 [] (W) a w | _ => SR [(0, .slice none 0 0), (1, .slice none 0 0), (10, .bool false)] 26 [] (W) a w) (show SR _ _ _ _ a W from h0) ⟨?_, ?_, ?_, ?_, ?_, trivial⟩ ?_
  · intro a w hI
    have hI : SR _ _ _ _ a w := hI
    have e0 := hI.g 0 rfl
    have hw : w = W := hI.wp
    subst hw
    go_simp
    exact hI.put (d := 6) (by decide) (by simp)
  · intro a w hI
    have hI : SR _ _ _ _ a w := hI
    have e6 := hI.g 6 rfl
    have hw : w = W := hI.wp
    subst hw
    go_simp
    exact hI.put (d := 7) (by decide) (by simp)
  · intro a w hI
    have hI : SR _ _ _ _ a w := hI
    have e1 := hI.g 1 rfl
    have hw : w = W := hI.wp
    subst hw
    go_simp
    exact hI.put (d := 8) (by decide) (by simp)
  · intro a w hI
    have hI : SR _ _ _ _ a w := hI
    have e8 := hI.g 8 rfl
    have hw : w = W := hI.wp
    subst hw
    go_simp
    exact hI.put (d := 9) (by decide) (by simp)
  · intro a w hI
    have hI : SR _ _ _ _ a w := hI
    have e7 := hI.g 7 rfl
    have e9 := hI.g 9 rfl
    have hw : w = W := hI.wp
    subst hw
    go_simp
    exact hI.put (d := 10) (by decide) (by simp)
  · intro a w hI
    have hI : SR _ _ _ _ a w := hI
    have hw : w = W := hI.wp
    subst hw
    exact hQ a hI
set_option maxRecDepth 100000 in
set_option maxHeartbeats 4000000 in
theorem tk3 (n : Nat) (W : World)  (Q : Exit → Act → World → Prop) (a : Act) (h0 : SR [(0, .slice none 0 0), (1, .slice none 0 0)] 26 [] W a W)
    (hQ : ∀ a, SR [(0, .slice none 0 0), (1, .slice none 0 0), (5, .int .i64 0)] 26 [] (W) a (W) → Q .normal a (W)) : (regOf 3 C35).wpIn Fence.wide n Try.prog Q a W := by
  simp only [regOf, C35, Try.f35, Option.getD, Nat.reduceBEq, Bool.false_eq_true, if_true, if_false]
  refine region_sq (fun k_ a w => match k_ with | 0 => SR [(0, .slice none 0 0), (1, .slice none 0 0)] 26 [] (W) a w | _ => SR [(0, .slice none 0 0), (1, .slice none 0 0), (5, .int .i64 0)] 26 [] (W) a w) (show SR _ _ _ _ a W from h0) ⟨?_, trivial⟩ ?_
  · intro a w hI
    have hI : SR _ _ _ _ a w := hI
    have hw : w = W := hI.wp
    subst hw
    go_simp
    exact hI.put (d := 5) (by decide) (by simp)
  · intro a w hI
    have hI : SR _ _ _ _ a w := hI
    have hw : w = W := hI.wp
    subst hw
    exact hQ a hI
set_option maxRecDepth 100000 in
set_option maxHeartbeats 4000000 in
theorem tk4 (n : Nat) (W : World)  (Q : Exit → Act → World → Prop) (a : Act) (h0 : SR [(0, .slice none 0 0), (1, .slice none 0 0), (5, .int .i64 0)] 26 [] W a W)
    (hQ : ∀ a, SR [(14, .bool false)] 26 [] (W) a (W) → Q .normal a (W)) : (regOf 4 C35).wpIn Fence.wide n Try.prog Q a W := by
  simp only [regOf, C35, Try.f35, Option.getD, Nat.reduceBEq, Bool.false_eq_true, if_true, if_false]
  refine region_sq (fun k_ a w => match k_ with | 0 => SR [(0, .slice none 0 0), (5, .int .i64 0)] 26 [] (W) a w | 1 => SR [(0, .slice none 0 0), (11, .int .i64 0)] 26 [] (W) a w | 2 => SR [(11, .int .i64 0), (12, .slice none 0 0)] 26 [] (W) a w | 3 => SR [(11, .int .i64 0), (13, .int .i64 0)] 26 [] (W) a w | _ => SR [(14, .bool false)] 26 [] (W) a w) (show SR _ _ _ _ a W from h0.sub (by intro p hp; simp only [List.mem_cons, List.not_mem_nil, or_false] at hp ⊢; rcases hp with h | h <;> simp [h])) ⟨?_, ?_, ?_, ?_, trivial⟩ ?_
  · intro a w hI
    have hI : SR _ _ _ _ a w := hI
    have e5 := hI.g 5 rfl
    have hw : w = W := hI.wp
    subst hw
    go_simp
    exact hI.put (d := 11) (by decide) (by simp)
  · intro a w hI
    have hI : SR _ _ _ _ a w := hI
    have e0 := hI.g 0 rfl
    have hw : w = W := hI.wp
    subst hw
    go_simp
    exact hI.put (d := 12) (by decide) (by simp)
  · intro a w hI
    have hI : SR _ _ _ _ a w := hI
    have e12 := hI.g 12 rfl
    have hw : w = W := hI.wp
    subst hw
    go_simp
    exact hI.put (d := 13) (by decide) (by simp)
  · intro a w hI
    have hI : SR _ _ _ _ a w := hI
    have e11 := hI.g 11 rfl
    have e13 := hI.g 13 rfl
    have hw : w = W := hI.wp
    subst hw
    go_simp
    exact hI.put (d := 14) (by decide) (by simp)
  · intro a w hI
    have hI : SR _ _ _ _ a w := hI
    have hw : w = W := hI.wp
    subst hw
    exact hQ a hI
set_option maxRecDepth 100000 in
set_option maxHeartbeats 4000000 in
theorem tk8 (n : Nat) (W : World)  (Q : Exit → Act → World → Prop) (a : Act) (h0 : SR [] 26 [] W a W)
    (hQ : ∀ a, SR [(4, .bool true)] 26 [] (W) a (W) → Q .normal a (W)) : (regOf 8 C35).wpIn Fence.wide n Try.prog Q a W := by
  simp only [regOf, C35, Try.f35, Option.getD, Nat.reduceBEq, Bool.false_eq_true, if_true, if_false]
  refine region_sq (fun k_ a w => match k_ with | 0 => SR [] 26 [] (W) a w | _ => SR [(4, .bool true)] 26 [] (W) a w) (show SR _ _ _ _ a W from h0) ⟨?_, trivial⟩ ?_
  · intro a w hI
    have hI : SR _ _ _ _ a w := hI
    have hw : w = W := hI.wp
    subst hw
    go_simp
    exact hI.put (d := 4) (by decide) (by simp)
  · intro a w hI
    have hI : SR _ _ _ _ a w := hI
    have hw : w = W := hI.wp
    subst hw
    exact hQ a hI
noncomputable def C22 : Code := Try.f22.body.getD .skip
set_option maxRecDepth 100000 in
set_option maxHeartbeats 4000000 in
theorem sa0 (n : Nat) (W : World) (ra rb : Nat)  (Q : Exit → Act → World → Prop) (a : Act) (h0 : SR [(0, .pointer (some ⟨ra, 0, none⟩)), (1, .pointer (some ⟨rb, 0, none⟩))] 47 [] W a W)
    (hQ : ∀ a, SR [(0, .pointer (some ⟨ra, 0, none⟩)), (1, .pointer (some ⟨rb, 0, none⟩))] 47 [] (W) a (W) → Q .normal a (W)) : (regOf 0 C22).wpIn Fence.wide n Try.prog Q a W := by
  simp only [regOf, C22, Try.f22, Option.getD, Nat.reduceBEq, Bool.false_eq_true, if_true, if_false]
  refine region_sq (fun k_ a w => match k_ with | 0 => SR [(0, .pointer (some ⟨ra, 0, none⟩)), (1, .pointer (some ⟨rb, 0, none⟩))] 47 [] (W) a w | _ => SR [(0, .pointer (some ⟨ra, 0, none⟩)), (1, .pointer (some ⟨rb, 0, none⟩))] 47 [] (W) a w) (show SR _ _ _ _ a W from h0) ⟨?_, trivial⟩ ?_
  · intro a w hI
    have hI : SR _ _ _ _ a w := hI
    have hw : w = W := hI.wp
    subst hw
    go_simp
    exact hI.put (d := 4) (by decide) (by simp)
  · intro a w hI
    have hI : SR _ _ _ _ a w := hI
    have hw : w = W := hI.wp
    subst hw
    exact hQ a hI
set_option maxRecDepth 100000 in
set_option maxHeartbeats 4000000 in
theorem sa1 (n : Nat) (W : World) (ra rb : Nat)  (Q : Exit → Act → World → Prop) (a : Act) (h0 : SR [(0, .pointer (some ⟨ra, 0, none⟩)), (1, .pointer (some ⟨rb, 0, none⟩))] 47 [] W a W)
    (hQ : ∀ a, SR [(0, .pointer (some ⟨ra, 0, none⟩)), (1, .pointer (some ⟨rb, 0, none⟩)), (5, .int .i64 0)] 47 [] (W) a (W) → Q .normal a (W)) : (regOf 1 C22).wpIn Fence.wide n Try.prog Q a W := by
  simp only [regOf, C22, Try.f22, Option.getD, Nat.reduceBEq, Bool.false_eq_true, if_true, if_false]
  refine region_sq (fun k_ a w => match k_ with | 0 => SR [(0, .pointer (some ⟨ra, 0, none⟩)), (1, .pointer (some ⟨rb, 0, none⟩))] 47 [] (W) a w | _ => SR [(0, .pointer (some ⟨ra, 0, none⟩)), (1, .pointer (some ⟨rb, 0, none⟩)), (5, .int .i64 0)] 47 [] (W) a w) (show SR _ _ _ _ a W from h0) ⟨?_, trivial⟩ ?_
  · intro a w hI
    have hI : SR _ _ _ _ a w := hI
    have hw : w = W := hI.wp
    subst hw
    go_simp
    exact hI.put (d := 5) (by decide) (by simp)
  · intro a w hI
    have hI : SR _ _ _ _ a w := hI
    have hw : w = W := hI.wp
    subst hw
    exact hQ a hI
set_option maxRecDepth 100000 in
set_option maxHeartbeats 4000000 in
theorem sa2 (n : Nat) (W : World) (ra rb : Nat) (i : Nat)  (Q : Exit → Act → World → Prop) (a : Act) (h0 : SR [(0, .pointer (some ⟨ra, 0, none⟩)), (1, .pointer (some ⟨rb, 0, none⟩)), (5, .int .i64 i)] 47 [] W a W)
    (hQ : ∀ a, SR [(0, .pointer (some ⟨ra, 0, none⟩)), (1, .pointer (some ⟨rb, 0, none⟩)), (5, .int .i64 i), (7, .bool (decide ((i : Int) < 4096)))] 47 [] (W) a (W) → Q .normal a (W)) : (regOf 2 C22).wpIn Fence.wide n Try.prog Q a W := by
  simp only [regOf, C22, Try.f22, Option.getD, Nat.reduceBEq, Bool.false_eq_true, if_true, if_false]
  refine region_sq (fun k_ a w => match k_ with | 0 => SR [(0, .pointer (some ⟨ra, 0, none⟩)), (1, .pointer (some ⟨rb, 0, none⟩)), (5, .int .i64 i)] 47 [] (W) a w | 1 => SR [(0, .pointer (some ⟨ra, 0, none⟩)), (1, .pointer (some ⟨rb, 0, none⟩)), (5, .int .i64 i), (6, .int .i64 i)] 47 [] (W) a w | _ => SR [(0, .pointer (some ⟨ra, 0, none⟩)), (1, .pointer (some ⟨rb, 0, none⟩)), (5, .int .i64 i), (7, .bool (decide ((i : Int) < 4096)))] 47 [] (W) a w) (show SR _ _ _ _ a W from h0) ⟨?_, ?_, trivial⟩ ?_
  · intro a w hI
    have hI : SR _ _ _ _ a w := hI
    have e5 := hI.g 5 rfl
    have hw : w = W := hI.wp
    subst hw
    go_simp
    exact hI.put (d := 6) (by decide) (by simp)
  · intro a w hI
    have hI : SR _ _ _ _ a w := hI
    have e6 := hI.g 6 rfl
    have hw : w = W := hI.wp
    subst hw
    go_simp
    exact hI.put (d := 7) (by decide) (by simp)
  · intro a w hI
    have hI : SR _ _ _ _ a w := hI
    have hw : w = W := hI.wp
    subst hw
    exact hQ a hI
set_option maxRecDepth 100000 in
set_option maxHeartbeats 4000000 in
theorem sa3 (n : Nat) (W : World) (ra rb : Nat) (i : Nat) (hi : i < 4096) (Q : Exit → Act → World → Prop) (a : Act) (h0 : SR [(0, .pointer (some ⟨ra, 0, none⟩)), (1, .pointer (some ⟨rb, 0, none⟩)), (5, .int .i64 i)] 47 [] W a W)
    (hQ : ∀ a, SR [(0, .pointer (some ⟨ra, 0, none⟩)), (1, .pointer (some ⟨rb, 0, none⟩)), (5, .int .i64 ((i : Int) + 1))] 47 [] (W) a (W) → Q .normal a (W)) : (regOf 3 C22).wpIn Fence.wide n Try.prog Q a W := by
  simp only [regOf, C22, Try.f22, Option.getD, Nat.reduceBEq, Bool.false_eq_true, if_true, if_false]
  refine region_sq (fun k_ a w => match k_ with | 0 => SR [(0, .pointer (some ⟨ra, 0, none⟩)), (1, .pointer (some ⟨rb, 0, none⟩)), (5, .int .i64 i)] 47 [] (W) a w | 1 => SR [(0, .pointer (some ⟨ra, 0, none⟩)), (1, .pointer (some ⟨rb, 0, none⟩)), (8, .int .i64 i)] 47 [] (W) a w | 2 => SR [(0, .pointer (some ⟨ra, 0, none⟩)), (1, .pointer (some ⟨rb, 0, none⟩)), (9, .int .i64 ((i : Int) + 1))] 47 [] (W) a w | _ => SR [(0, .pointer (some ⟨ra, 0, none⟩)), (1, .pointer (some ⟨rb, 0, none⟩)), (5, .int .i64 ((i : Int) + 1))] 47 [] (W) a w) (show SR _ _ _ _ a W from h0) ⟨?_, ?_, ?_, trivial⟩ ?_
  · intro a w hI
    have hI : SR _ _ _ _ a w := hI
    have e5 := hI.g 5 rfl
    have hw : w = W := hI.wp
    subst hw
    go_simp
    exact hI.put (d := 8) (by decide) (by simp)
  · intro a w hI
    have hI : SR _ _ _ _ a w := hI
    have e8 := hI.g 8 rfl
    have hw : w = W := hI.wp
    subst hw
    have hw1 : IntKind.i64.wrap ((i : Int) + 1) = (i : Int) + 1 := IntWalk.i64_in _ (by omega)
    go_simp
    exact hI.put (d := 9) (by decide) (by simp)
  · intro a w hI
    have hI : SR _ _ _ _ a w := hI
    have e9 := hI.g 9 rfl
    have hw : w = W := hI.wp
    subst hw
    go_simp
    exact hI.put (d := 5) (by decide) (by simp)
  · intro a w hI
    have hI : SR _ _ _ _ a w := hI
    have hw : w = W := hI.wp
    subst hw
    exact hQ a hI
set_option maxRecDepth 100000 in
set_option maxHeartbeats 4000000 in
theorem sa4 (n : Nat) {G : World → Prop} (hS : Stable G) (ra rb : Nat) (i : Nat) (k v s m_ : Int) (hi : i < 4096) (ra0 : ∀ w, G w → w.cell? ⟨ra, i * 2, none⟩ = some (.int .u8 k)) (ra1 : ∀ w, G w → w.cell? ⟨ra, i * 2 + 1, none⟩ = some (.int .u8 v)) (rb0 : ∀ w, G w → w.cell? ⟨rb, i * 2, none⟩ = some (.int .u8 k)) (rb1 : ∀ w, G w → w.cell? ⟨rb, i * 2 + 1, none⟩ = some (.int .u8 v)) (ra2 : ∀ w, G w → w.cell? ⟨ra, 8192 + i * 2, none⟩ = some (.int .u8 s)) (ra3 : ∀ w, G w → w.cell? ⟨ra, 8192 + i * 2 + 1, none⟩ = some (.int .u8 m_)) (rb2 : ∀ w, G w → w.cell? ⟨rb, 8192 + i * 2, none⟩ = some (.int .u8 s)) (rb3 : ∀ w, G w → w.cell? ⟨rb, 8192 + i * 2 + 1, none⟩ = some (.int .u8 m_)) (Q : Exit → Act → World → Prop) (a : Act) (w : World) (h0 : SG [(0, .pointer (some ⟨ra, 0, none⟩)), (1, .pointer (some ⟨rb, 0, none⟩)), (5, .int .i64 i)] 47 G a w)
    (hQ : ∀ a w, SG [(0, .pointer (some ⟨ra, 0, none⟩)), (1, .pointer (some ⟨rb, 0, none⟩)), (5, .int .i64 i), (37, .bool false)] 47 G a w → Q .normal a w) : (regOf 4 C22).wpIn Fence.wide n Try.prog Q a w := by
  have hmix : Try.prog.follows .mixedOrders = true := by kernel_rfl
  simp only [regOf, C22, Try.f22, Option.getD, Nat.reduceBEq, Bool.false_eq_true, if_true, if_false]
  refine region_inv (RI [(0, .pointer (some ⟨ra, 0, none⟩)), (1, .pointer (some ⟨rb, 0, none⟩)), (5, .int .i64 i)]
    [(0, 10, .pointer (some ⟨ra, 0, none⟩)), (1, 11, .int .i64 i), (2, 12, .pointer (some ⟨ra, 0, none⟩)), (3, 13, .pointer (some ⟨ra, 0, none⟩)), (4, 14, .pointer (some ⟨ra, i * 2, none⟩)), (5, 15, .agg #[.int .u8 k, .int .u8 v]), (6, 16, .pointer (some ⟨rb, 0, none⟩)), (7, 17, .int .i64 i), (8, 18, .pointer (some ⟨rb, 0, none⟩)), (9, 19, .pointer (some ⟨rb, 0, none⟩)), (10, 20, .pointer (some ⟨rb, i * 2, none⟩)), (11, 21, .agg #[.int .u8 k, .int .u8 v]), (12, 22, .bool false), (13, 23, .bool false), (14, 24, .pointer (some ⟨ra, 0, none⟩)), (15, 25, .int .i64 i), (16, 26, .pointer (some ⟨ra, 0, none⟩)), (17, 27, .pointer (some ⟨ra, 8192, none⟩)), (18, 28, .pointer (some ⟨ra, 8192 + i * 2, none⟩)), (19, 29, .agg #[.int .u8 s, .int .u8 m_]), (20, 30, .pointer (some ⟨rb, 0, none⟩)), (21, 31, .int .i64 i), (22, 32, .pointer (some ⟨rb, 0, none⟩)), (23, 33, .pointer (some ⟨rb, 8192, none⟩)), (24, 34, .pointer (some ⟨rb, 8192 + i * 2, none⟩)), (25, 35, .agg #[.int .u8 s, .int .u8 m_]), (26, 36, .bool false), (27, 37, .bool false)] 47 [] (fun _ w => G w)) hmix (by kernel_rfl) ⟨h0.size, h0.defers, h0.kn, by simp, hS _ _ h0.wp (Below.refl _ _).drew⟩ ⟨?_, ?_, ?_, ?_, ?_, ?_, ?_, ?_, ?_, ?_, ?_, ?_, ?_, ?_, ?_, ?_, ?_, ?_, ?_, ?_, ?_, ?_, ?_, ?_, ?_, ?_, ?_, ?_, trivial⟩ ?_
  · intro Xs a w hX hdep hC hI
    have e0 := hI.gi 0 rfl
    go_simp
    exact hI.put' (k := 0) (d := 10) (by decide) (by simp) (by simp) (by simp) hI.wp
  · intro Xs a w hX hdep hC hI
    have e5 := hI.gi 5 rfl
    go_simp
    exact hI.put' (k := 1) (d := 11) (by decide) (by simp) (by simp) (by simp) hI.wp
  · intro Xs a w hX hdep hC hI
    have x0 : Xs 0 = true := hdep ⟨0, .data⟩ (by simp) rfl
    have e10 := hI.gk 0 rfl x0
    go_simp
    exact hI.put' (k := 2) (d := 12) (by decide) (by simp) (by simp) (by simp) hI.wp
  · intro Xs a w hX hdep hC hI
    have x2 : Xs 2 = true := hdep ⟨2, .data⟩ (by simp) rfl
    have e12 := hI.gk 2 rfl x2
    go_simp
    exact hI.put' (k := 3) (d := 13) (by decide) (by simp) (by simp) (by simp) hI.wp
  · intro Xs a w hX hdep hC hI
    have x3 : Xs 3 = true := hdep ⟨3, .data⟩ (by simp) rfl
    have e13 := hI.gk 3 rfl x3
    have x1 : Xs 1 = true := hdep ⟨1, .data⟩ (by simp) rfl
    have e11 := hI.gk 1 rfl x1
    have q1_4 : (0 : Int) ≤ i := by omega
    have q2_4 : (i : Int) < 4096 := by omega
    go_simp
    exact hI.put' (k := 4) (d := 14) (by decide) (by simp) (by simp) (by simp) hI.wp
  · intro Xs a w hX hdep hC hI
    have x4 : Xs 4 = true := hdep ⟨4, .data⟩ (by simp) rfl
    have e14 := hI.gk 4 rfl x4
    have cc0 := ra0 w hI.wp
    have cc1 := ra1 w hI.wp
    go_simp
    exact hI.put' (k := 5) (d := 15) (by decide) (by simp) (by simp) (by simp) hI.wp
  · intro Xs a w hX hdep hC hI
    have e1 := hI.gi 1 rfl
    go_simp
    exact hI.put' (k := 6) (d := 16) (by decide) (by simp) (by simp) (by simp) hI.wp
  · intro Xs a w hX hdep hC hI
    have e5 := hI.gi 5 rfl
    go_simp
    exact hI.put' (k := 7) (d := 17) (by decide) (by simp) (by simp) (by simp) hI.wp
  · intro Xs a w hX hdep hC hI
    have x6 : Xs 6 = true := hdep ⟨6, .data⟩ (by simp) rfl
    have e16 := hI.gk 6 rfl x6
    go_simp
    exact hI.put' (k := 8) (d := 18) (by decide) (by simp) (by simp) (by simp) hI.wp
  · intro Xs a w hX hdep hC hI
    have x8 : Xs 8 = true := hdep ⟨8, .data⟩ (by simp) rfl
    have e18 := hI.gk 8 rfl x8
    go_simp
    exact hI.put' (k := 9) (d := 19) (by decide) (by simp) (by simp) (by simp) hI.wp
  · intro Xs a w hX hdep hC hI
    have x9 : Xs 9 = true := hdep ⟨9, .data⟩ (by simp) rfl
    have e19 := hI.gk 9 rfl x9
    have x7 : Xs 7 = true := hdep ⟨7, .data⟩ (by simp) rfl
    have e17 := hI.gk 7 rfl x7
    have q1_10 : (0 : Int) ≤ i := by omega
    have q2_10 : (i : Int) < 4096 := by omega
    go_simp
    exact hI.put' (k := 10) (d := 20) (by decide) (by simp) (by simp) (by simp) hI.wp
  · intro Xs a w hX hdep hC hI
    have x10 : Xs 10 = true := hdep ⟨10, .data⟩ (by simp) rfl
    have e20 := hI.gk 10 rfl x10
    have cc0 := rb0 w hI.wp
    have cc1 := rb1 w hI.wp
    go_simp
    exact hI.put' (k := 11) (d := 21) (by decide) (by simp) (by simp) (by simp) hI.wp
  · intro Xs a w hX hdep hC hI
    have x5 : Xs 5 = true := hdep ⟨5, .data⟩ (by simp) rfl
    have e15 := hI.gk 5 rfl x5
    have x11 : Xs 11 = true := hdep ⟨11, .data⟩ (by simp) rfl
    have e21 := hI.gk 11 rfl x11
    go_simp
    exact hI.put' (k := 12) (d := 22) (by decide) (by simp) (by simp) (by simp) hI.wp
  · intro Xs a w hX hdep hC hI
    have x12 : Xs 12 = true := hdep ⟨12, .data⟩ (by simp) rfl
    have e22 := hI.gk 12 rfl x12
    go_simp
    exact hI.put' (k := 13) (d := 23) (by decide) (by simp) (by simp) (by simp) hI.wp
  · intro Xs a w hX hdep hC hI
    have e0 := hI.gi 0 rfl
    have x13 : Xs 13 = true := hdep ⟨13, .guard⟩ (by simp) rfl
    have e23 := hI.gk 13 rfl x13
    have f23 := slot_bool e23
    go_simp
    exact hI.put' (k := 14) (d := 24) (by decide) (by simp) (by simp) (by simp) hI.wp
  · intro Xs a w hX hdep hC hI
    have e5 := hI.gi 5 rfl
    have x13 : Xs 13 = true := hdep ⟨13, .guard⟩ (by simp) rfl
    have e23 := hI.gk 13 rfl x13
    have f23 := slot_bool e23
    go_simp
    exact hI.put' (k := 15) (d := 25) (by decide) (by simp) (by simp) (by simp) hI.wp
  · intro Xs a w hX hdep hC hI
    have x14 : Xs 14 = true := hdep ⟨14, .data⟩ (by simp) rfl
    have e24 := hI.gk 14 rfl x14
    have x13 : Xs 13 = true := hdep ⟨13, .guard⟩ (by simp) rfl
    have e23 := hI.gk 13 rfl x13
    have f23 := slot_bool e23
    go_simp
    exact hI.put' (k := 16) (d := 26) (by decide) (by simp) (by simp) (by simp) hI.wp
  · intro Xs a w hX hdep hC hI
    have x16 : Xs 16 = true := hdep ⟨16, .data⟩ (by simp) rfl
    have e26 := hI.gk 16 rfl x16
    have x13 : Xs 13 = true := hdep ⟨13, .guard⟩ (by simp) rfl
    have e23 := hI.gk 13 rfl x13
    have f23 := slot_bool e23
    go_simp
    exact hI.put' (k := 17) (d := 27) (by decide) (by simp) (by simp) (by simp) hI.wp
  · intro Xs a w hX hdep hC hI
    have x17 : Xs 17 = true := hdep ⟨17, .data⟩ (by simp) rfl
    have e27 := hI.gk 17 rfl x17
    have x15 : Xs 15 = true := hdep ⟨15, .data⟩ (by simp) rfl
    have e25 := hI.gk 15 rfl x15
    have x13 : Xs 13 = true := hdep ⟨13, .guard⟩ (by simp) rfl
    have e23 := hI.gk 13 rfl x13
    have f23 := slot_bool e23
    have q1_18 : (0 : Int) ≤ i := by omega
    have q2_18 : (i : Int) < 4096 := by omega
    go_simp
    exact hI.put' (k := 18) (d := 28) (by decide) (by simp) (by simp) (by simp) hI.wp
  · intro Xs a w hX hdep hC hI
    have x18 : Xs 18 = true := hdep ⟨18, .data⟩ (by simp) rfl
    have e28 := hI.gk 18 rfl x18
    have x13 : Xs 13 = true := hdep ⟨13, .guard⟩ (by simp) rfl
    have e23 := hI.gk 13 rfl x13
    have f23 := slot_bool e23
    have cc0 := ra2 w hI.wp
    have cc1 := ra3 w hI.wp
    go_simp
    exact hI.put' (k := 19) (d := 29) (by decide) (by simp) (by simp) (by simp) hI.wp
  · intro Xs a w hX hdep hC hI
    have e1 := hI.gi 1 rfl
    have x13 : Xs 13 = true := hdep ⟨13, .guard⟩ (by simp) rfl
    have e23 := hI.gk 13 rfl x13
    have f23 := slot_bool e23
    go_simp
    exact hI.put' (k := 20) (d := 30) (by decide) (by simp) (by simp) (by simp) hI.wp
  · intro Xs a w hX hdep hC hI
    have e5 := hI.gi 5 rfl
    have x13 : Xs 13 = true := hdep ⟨13, .guard⟩ (by simp) rfl
    have e23 := hI.gk 13 rfl x13
    have f23 := slot_bool e23
    go_simp
    exact hI.put' (k := 21) (d := 31) (by decide) (by simp) (by simp) (by simp) hI.wp
  · intro Xs a w hX hdep hC hI
    have x20 : Xs 20 = true := hdep ⟨20, .data⟩ (by simp) rfl
    have e30 := hI.gk 20 rfl x20
    have x13 : Xs 13 = true := hdep ⟨13, .guard⟩ (by simp) rfl
    have e23 := hI.gk 13 rfl x13
    have f23 := slot_bool e23
    go_simp
    exact hI.put' (k := 22) (d := 32) (by decide) (by simp) (by simp) (by simp) hI.wp
  · intro Xs a w hX hdep hC hI
    have x22 : Xs 22 = true := hdep ⟨22, .data⟩ (by simp) rfl
    have e32 := hI.gk 22 rfl x22
    have x13 : Xs 13 = true := hdep ⟨13, .guard⟩ (by simp) rfl
    have e23 := hI.gk 13 rfl x13
    have f23 := slot_bool e23
    go_simp
    exact hI.put' (k := 23) (d := 33) (by decide) (by simp) (by simp) (by simp) hI.wp
  · intro Xs a w hX hdep hC hI
    have x23 : Xs 23 = true := hdep ⟨23, .data⟩ (by simp) rfl
    have e33 := hI.gk 23 rfl x23
    have x21 : Xs 21 = true := hdep ⟨21, .data⟩ (by simp) rfl
    have e31 := hI.gk 21 rfl x21
    have x13 : Xs 13 = true := hdep ⟨13, .guard⟩ (by simp) rfl
    have e23 := hI.gk 13 rfl x13
    have f23 := slot_bool e23
    have q1_24 : (0 : Int) ≤ i := by omega
    have q2_24 : (i : Int) < 4096 := by omega
    go_simp
    exact hI.put' (k := 24) (d := 34) (by decide) (by simp) (by simp) (by simp) hI.wp
  · intro Xs a w hX hdep hC hI
    have x24 : Xs 24 = true := hdep ⟨24, .data⟩ (by simp) rfl
    have e34 := hI.gk 24 rfl x24
    have x13 : Xs 13 = true := hdep ⟨13, .guard⟩ (by simp) rfl
    have e23 := hI.gk 13 rfl x13
    have f23 := slot_bool e23
    have cc0 := rb2 w hI.wp
    have cc1 := rb3 w hI.wp
    go_simp
    exact hI.put' (k := 25) (d := 35) (by decide) (by simp) (by simp) (by simp) hI.wp
  · intro Xs a w hX hdep hC hI
    have x19 : Xs 19 = true := hdep ⟨19, .data⟩ (by simp) rfl
    have e29 := hI.gk 19 rfl x19
    have x25 : Xs 25 = true := hdep ⟨25, .data⟩ (by simp) rfl
    have e35 := hI.gk 25 rfl x25
    have x13 : Xs 13 = true := hdep ⟨13, .guard⟩ (by simp) rfl
    have e23 := hI.gk 13 rfl x13
    have f23 := slot_bool e23
    go_simp
    exact hI.put' (k := 26) (d := 36) (by decide) (by simp) (by simp) (by simp) hI.wp
  · intro Xs a w hX hdep hC hI
    have x13 : Xs 13 = true := hdep ⟨13, .data⟩ (by simp) rfl
    have e23 := hI.gk 13 rfl x13
    have x26 : Xs 26 = true := hdep ⟨26, .data⟩ (by simp) rfl
    have e36 := hI.gk 26 rfl x26
    go_simp
    exact hI.put' (k := 27) (d := 37) (by decide) (by simp) (by simp) (by simp) hI.wp
  · intro Xs a w hX hI
    refine hQ a w ⟨hI.size, hI.defers, ?_, hI.wp⟩
    simp only [List.mem_cons, List.not_mem_nil, or_false, forall_eq_or_imp, forall_eq]
    exact ⟨hI.gi 0 rfl, hI.gi 1 rfl, hI.gi 5 rfl, hI.gk 27 rfl (hX 27 (by simp))⟩
set_option maxRecDepth 100000 in
set_option maxHeartbeats 4000000 in
theorem sa6 (n : Nat) {G : World → Prop} (hS : Stable G) (ra rb : Nat)  (ta : ∀ w, G w → w.cell? ⟨ra, 16384, none⟩ = some (.slice none 0 0)) (tb : ∀ w, G w → w.cell? ⟨rb, 16384, none⟩ = some (.slice none 0 0)) (hc : ∀ m w, G w → CallsIn Fence.wide m Try.prog 35 #[.slice none 0 0, .slice none 0 0] w fun e w' => e = .returned (.bool true) ∧ Below w.heap.size w w') (Q : Exit → Act → World → Prop) (a : Act) (w : World) (h0 : SG [(0, .pointer (some ⟨ra, 0, none⟩)), (1, .pointer (some ⟨rb, 0, none⟩))] 47 G a w)
    (hQ : ∀ a w, SG [(4, .bool true)] 47 G a w → Q .normal a w) : (regOf 6 C22).wpIn Fence.wide n Try.prog Q a w := by
  have hmix : Try.prog.follows .mixedOrders = true := by kernel_rfl
  simp only [regOf, C22, Try.f22, Option.getD, Nat.reduceBEq, Bool.false_eq_true, if_true, if_false]
  refine region_inv (RI [(0, .pointer (some ⟨ra, 0, none⟩)), (1, .pointer (some ⟨rb, 0, none⟩))]
    [(0, 38, .pointer (some ⟨ra, 0, none⟩)), (1, 39, .pointer (some ⟨ra, 0, none⟩)), (2, 40, .pointer (some ⟨ra, 16384, none⟩)), (3, 41, .slice none 0 0), (4, 42, .pointer (some ⟨rb, 0, none⟩)), (5, 43, .pointer (some ⟨rb, 0, none⟩)), (6, 44, .pointer (some ⟨rb, 16384, none⟩)), (7, 45, .slice none 0 0), (8, 46, .bool true), (9, 4, .bool true)] 47 [] (fun _ w => G w)) hmix (by kernel_rfl) ⟨h0.size, h0.defers, h0.kn, by simp, hS _ _ h0.wp (Below.refl _ _).drew⟩ ⟨?_, ?_, ?_, ?_, ?_, ?_, ?_, ?_, ?_, ?_, trivial⟩ ?_
  · intro Xs a w hX hdep hC hI
    have e0 := hI.gi 0 rfl
    go_simp
    exact hI.put' (k := 0) (d := 38) (by decide) (by simp) (by simp) (by simp) hI.wp
  · intro Xs a w hX hdep hC hI
    have x0 : Xs 0 = true := hdep ⟨0, .data⟩ (by simp) rfl
    have e38 := hI.gk 0 rfl x0
    go_simp
    exact hI.put' (k := 1) (d := 39) (by decide) (by simp) (by simp) (by simp) hI.wp
  · intro Xs a w hX hdep hC hI
    have x1 : Xs 1 = true := hdep ⟨1, .data⟩ (by simp) rfl
    have e39 := hI.gk 1 rfl x1
    go_simp
    exact hI.put' (k := 2) (d := 40) (by decide) (by simp) (by simp) (by simp) hI.wp
  · intro Xs a w hX hdep hC hI
    have x2 : Xs 2 = true := hdep ⟨2, .data⟩ (by simp) rfl
    have e40 := hI.gk 2 rfl x2
    have cc0 := ta w hI.wp
    go_simp
    exact hI.put' (k := 3) (d := 41) (by decide) (by simp) (by simp) (by simp) hI.wp
  · intro Xs a w hX hdep hC hI
    have e1 := hI.gi 1 rfl
    go_simp
    exact hI.put' (k := 4) (d := 42) (by decide) (by simp) (by simp) (by simp) hI.wp
  · intro Xs a w hX hdep hC hI
    have x4 : Xs 4 = true := hdep ⟨4, .data⟩ (by simp) rfl
    have e42 := hI.gk 4 rfl x4
    go_simp
    exact hI.put' (k := 5) (d := 43) (by decide) (by simp) (by simp) (by simp) hI.wp
  · intro Xs a w hX hdep hC hI
    have x5 : Xs 5 = true := hdep ⟨5, .data⟩ (by simp) rfl
    have e43 := hI.gk 5 rfl x5
    go_simp
    exact hI.put' (k := 6) (d := 44) (by decide) (by simp) (by simp) (by simp) hI.wp
  · intro Xs a w hX hdep hC hI
    have x6 : Xs 6 = true := hdep ⟨6, .data⟩ (by simp) rfl
    have e44 := hI.gk 6 rfl x6
    have cc0 := tb w hI.wp
    go_simp
    exact hI.put' (k := 7) (d := 45) (by decide) (by simp) (by simp) (by simp) hI.wp
  · intro Xs a w hX hdep hC hI
    have x3 : Xs 3 = true := hdep ⟨3, .data⟩ (by simp) rfl
    have e41 := hI.gk 3 rfl x3
    have x7 : Xs 7 = true := hdep ⟨7, .data⟩ (by simp) rfl
    have e45 := hI.gk 7 rfl x7
    go_simp
    refine ⟨trivial, fun h => (by cases h), (hc (n - 1) w hI.wp).mono ?_⟩
    rintro e w' ⟨rfl, hb2⟩
    exact hI.put' (k := 8) (d := 46) (by decide) (by simp) (by simp) (by simp) (hS _ _ hI.wp hb2)
  · intro Xs a w hX hdep hC hI
    have x8 : Xs 8 = true := hdep ⟨8, .data⟩ (by simp) rfl
    have e46 := hI.gk 8 rfl x8
    go_simp
    exact hI.put' (k := 9) (d := 4) (by decide) (by simp) (by simp) (by simp) hI.wp
  · intro Xs a w hX hI
    refine hQ a w ⟨hI.size, hI.defers, ?_, hI.wp⟩
    simp only [List.mem_cons, List.not_mem_nil, or_false, forall_eq_or_imp, forall_eq]
    exact hI.gk 9 rfl (hX 9 (by simp))
open Pf (cellK cellL mayS spotV I64 U8 Gives movR totI totB ledgV)
theorem C35_eq : C35 = .seq (regOf 0 C35) (.seq (.seq (regOf 1 C35) (.cond (.tmp 10) (.seq (regOf 2 C35) .ret) .skip)) (.seq (.seq (regOf 3 C35) (.block 0 (.loop (.seq (.seq (regOf 4 C35) (.cond (.tmp 14) .skip (.exit 0))) (.seq (.block 1 (.seq (regOf 6 C35) (.cond (.tmp 25) (.seq (regOf 7 C35) .ret) .skip))) (regOf 5 C35)))))) (.seq (regOf 8 C35) .ret))) := by kernel_rfl
theorem ticks_in (n : Nat) (w : World) : CallsIn Fence.wide n Try.prog 35 #[.slice none 0 0, .slice none 0 0] w fun e w' => e = .returned (.bool true) ∧ Below w.heap.size w w' := by
  refine callsIn_of_wp Try.func35 rfl trivial ?_
  show C35.wpIn _ _ _ _ _ _
  rw [C35_eq]
  refine wpIn_seq (tk0 n w _ _ ⟨by simp [Try.ntmps35], rfl, by simp [Try.ntmps35], rfl⟩ ?_)
  intro a1 h1
  refine wpIn_seq (wpIn_seq (tk1 n w _ a1 h1 ?_))
  intro a2 h2
  refine wpIn_cond (t := false) (by rw [eval_tmp]; exact h2.g 10 rfl) (wpIn_skip ?_)
  refine wpIn_seq (wpIn_seq (tk3 n w _ a2 (h2.sub (by simp)) ?_))
  intro a3 h3
  refine wpIn_block (wpIn_loop (fun a w' => SR [(0, .slice none 0 0), (1, .slice none 0 0), (5, .int .i64 0)] 26 [] w a w') (fun _ _ => 0) h3 ?_)
  intro a w4 ha
  obtain rfl := ha.wp
  refine wpIn_seq (wpIn_seq (tk4 n _ _ a ha ?_))
  intro a5 h5
  refine wpIn_cond (t := false) (by rw [eval_tmp]; exact h5.g 14 rfl) (wpIn_exit ?_)
  show (Code.seq (regOf 8 C35) .ret).wpIn _ _ _ _ _ _
  refine wpIn_seq (tk8 n _ _ a5 (h5.sub (by simp)) ?_)
  intro a6 h6
  exact wpIn_ret ⟨h6.defers, _, results_tmp (t := 4) rfl _ _ _, by rw [Array.getD_eq_getD_getElem?, h6.g 4 rfl], Below.refl _ _⟩
theorem C22_eq : C22 = .seq (regOf 0 C22) (.seq (.seq (regOf 1 C22) (.block 0 (.loop (.seq (.seq (regOf 2 C22) (.cond (.tmp 7) .skip (.exit 0))) (.seq (.block 1 (.seq (regOf 4 C22) (.cond (.tmp 37) (.seq (regOf 5 C22) .ret) .skip))) (regOf 3 C22)))))) (.seq (regOf 6 C22) .ret)) := by kernel_rfl
theorem CkW.tick {w : World} {r : Nat} {A B : Nat → Int} (h : CkW w r A B) : w.cell? ⟨r, 16384, none⟩ = some (.slice none 0 0) := by
  obtain ⟨cs, h1, h2⟩ := h
  simp [World.cell?, h1, h2.t]
theorem CkW.light0 {w : World} {r : Nat} {A B : Nat → Int} (h : CkW w r A B) {i : Nat} (hi : i < 4096) : w.cell? ⟨r, 8192 + i * 2, none⟩ = some (.int .u8 (B (i * 2))) := h.light (by omega)
theorem CkW.light1 {w : World} {r : Nat} {A B : Nat → Int} (h : CkW w r A B) {i : Nat} (hi : i < 4096) : w.cell? ⟨r, 8192 + i * 2 + 1, none⟩ = some (.int .u8 (B (i * 2 + 1))) := by
  rw [show 8192 + i * 2 + 1 = 8192 + (i * 2 + 1) from by omega]; exact h.light (by omega)
set_option maxHeartbeats 1000000 in
theorem same_in {ra rb : Nat} {A B : Nat → Int} {w : World} (ha : CkW w ra A B) (hb : CkW w rb A B) (n : Nat) : CallsIn Fence.wide n Try.prog 22 #[ptr ra, ptr rb] w fun e w' => e = .returned (.bool true) ∧ Below w.heap.size w w' := by
  refine callsIn_of_wp Try.func22 rfl trivial ?_
  show C22.wpIn _ _ _ _ _ _
  rw [C22_eq]
  refine wpIn_seq (sa0 n w ra rb _ _ ⟨by simp [Try.ntmps22], rfl, by simp [Try.ntmps22], rfl⟩ ?_)
  intro a1 h1
  refine wpIn_seq (wpIn_seq (sa1 n w ra rb _ a1 h1 ?_))
  intro a2 h2
  refine wpIn_block (wpIn_loop (fun a w' => ∃ i, i ≤ 4096 ∧ SG [(0, ptr ra), (1, ptr rb), (5, .int .i64 (i : Nat))] 47 (Below w.heap.size w) a w') (fun a _ => 4096 - slotN 5 a) ⟨0, Nat.zero_le _, h2.sg (Below.refl _ _)⟩ ?_)
  rintro a w4 ⟨i, hi, hh⟩
  have e5 := hh.slot (t := 5) (v := i) (k := .i64) (by simp)
  have hG := hh.wp
  refine wpIn_seq (wpIn_seq (sa2 n w4 ra rb i _ a hh.sr ?_))
  intro a5 h5
  by_cases hlt : i < 4096
  · refine wpIn_cond (t := true) (by rw [eval_tmp, h5.g 7 rfl, decide_eq_true (by omega)]) (wpIn_skip (wpIn_seq (wpIn_block ?_)))
    refine wpIn_seq (sa4 n belS ra rb i (A (i * 2)) (A (i * 2 + 1)) (B (i * 2)) (B (i * 2 + 1)) hlt
      (fun w' hw => (ha.below hw).cell (by omega)) (fun w' hw => (ha.below hw).cell (by omega)) (fun w' hw => (hb.below hw).cell (by omega)) (fun w' hw => (hb.below hw).cell (by omega))
      (fun w' hw => (ha.below hw).light0 hlt) (fun w' hw => (ha.below hw).light1 hlt) (fun w' hw => (hb.below hw).light0 hlt) (fun w' hw => (hb.below hw).light1 hlt) _ a5 w4 ((h5.sub (by simp)).sg hG) ?_)
    intro a6 w6 h6
    have hG6 := h6.wp
    refine wpIn_cond (t := false) (by rw [eval_tmp]; exact h6.g 37 rfl) (wpIn_skip ?_)
    show (regOf 3 C22).wpIn _ _ _ _ _ _
    refine sa3 n w6 ra rb i hlt _ a6 (h6.sub (by simp)).sr ?_
    intro a9 h9
    have h9 : SG [(0, ptr ra), (1, ptr rb), (5, .int .i64 (i + 1 : Nat))] 47 (Below w.heap.size w) a9 w6 := h9.sg hG6
    exact ⟨⟨i + 1, hlt, h9⟩, by rw [e5, h9.slot (t := 5) (v := i + 1) (k := .i64) (by simp)]; omega⟩
  · refine wpIn_cond (t := false) (by rw [eval_tmp, h5.g 7 rfl, decide_eq_false (by omega)]) (wpIn_exit ?_)
    show (Code.seq (regOf 6 C22) .ret).wpIn _ _ _ _ _ _
    refine wpIn_seq (sa6 n belS ra rb (fun w' hw => (ha.below hw).tick) (fun w' hw => (hb.below hw).tick) (fun m w' _ => ticks_in m w') _ a5 w4 ((h5.sub (by simp)).sg hG) ?_)
    intro a6 w6 h6
    exact wpIn_ret ⟨h6.defers, _, results_tmp (t := 4) rfl _ _ _, by rw [Array.getD_eq_getD_getElem?, h6.g 4 rfl], h6.wp⟩
end Go.Proofs.Ytigblagodlfedaa
