/- Glow: the walk of a law. -/
import Derived.RangeFuncNested
import Derived.RangeFuncBound
import Derived.RangeFuncCalls
import Derived.RangeFuncLeaves
import Derived.Shelf.Abstract
import Derived.Shelf.RegionOpen
import Derived.WalkKit
import Derived.OwnWalkIn
import Derived.TacticsInMore
import Derived.LoopNIn
import Derived.LoopIn
import Derived.Lib.Hide
import Derived.IntWalk
import Derived.Maps.AppendAt
import Derived.Test.YtigblagodlfedaaHand

import Derived.Laws.CopyOwn
import Derived.Test.YtigblagodlfedaaM1
set_option linter.unusedVariables false
set_option linter.unusedSimpArgs false
namespace Go.Proofs.Ytigblagodlfedaa
open Go.RowKit Go.Shelf
attribute [local go_sem] Oper.semAt_some

open Pf (cellK cellL mayS spotV I64 U8 Gives movR totI totB ledgV)
theorem operIn_bin {F : Fence} {nF : Nat} {P : Program} {w : World} {K : Act → World → Prop} {o : Oper} {a : Act} {Q : Exit → Act → World → Prop} (op : BinOp) (x y : Operand) (t rt : TypeId) (ho : o.op = .binOp op t x y rt) (v : Value)
    (hg : (eqGuard op t x y (a.eval x) (a.eval y)).run P w = .ok () w) (hr : (binOp op t (a.eval x) (a.eval y)).run P w = .ok v w) (h : K (a.put o.dst v) w) : o.wpIn F nF P a w K Q := by
  unfold Oper.wpIn
  refine ⟨by simp [Oper.about, ho], ?_⟩
  rw [Oper.semAt_plain F _ _ (by rw [ho]; intro c hc'; cases hc')]
  simp [execOp, ho, hg, hr, Result.andThen]
  exact h
theorem equal33 {p q : Sp3} (hp : okS p) (hq : okS q) (w : World) : (Op.equal 33 (sv p) (sv q)).run Try.prog w = .ok (decide (p = q)) w := by
  obtain ⟨kp, h1⟩ := key33 hp
  obtain ⟨kq, h2⟩ := key33 hq
  obtain ⟨r, h3, h4⟩ := run_equal_deep (P := Try.prog) w (m := 8) (by decide) (k := 33) (by kernel_rfl) (by kernel_rfl) h1 h2
  rw [h3]
  congr 1
  by_cases h : p = q
  · subst h
    rw [h1] at h2
    rw [h4.2 (Option.some.inj h2), decide_eq_true rfl]
  · rw [decide_eq_false h]
    cases hr : r with
    | false => rfl
    | true =>
      have := h4.1 hr
      subst this
      exact absurd (sv_inj (law33.inj h1 h2)) h
theorem eql33 {p q : Sp3} (hp : okS p) (hq : okS q) (w : World) : (binOp .eql 33 (sv p) (sv q)).run Try.prog w = .ok (.bool (decide (p = q))) w := by
  have e : binOp .eql 33 (sv p) (sv q) = (do pure (.bool (← Op.equal 33 (sv p) (sv q)))) := rfl
  rw [e]
  simp [equal33 hp hq w, Result.andThen]
theorem neq33 {p q : Sp3} (hp : okS p) (hq : okS q) (w : World) : (binOp .neq 33 (sv p) (sv q)).run Try.prog w = .ok (.bool (!decide (p = q))) w := by
  have e : binOp .neq 33 (sv p) (sv q) = (do pure (.bool (!(← Op.equal 33 (sv p) (sv q))))) := rfl
  rw [e]
  simp [equal33 hp hq w, Result.andThen]
theorem guard33 (op : BinOp) (x y : Operand) (p q : Sp3) (w : World) : (eqGuard op 33 x y (sv p) (sv q)).run Try.prog w = .ok () w := by
  unfold eqGuard
  cases op <;> simp
noncomputable def C20 : Code := Try.f20.body.getD .skip
set_option maxRecDepth 100000 in
set_option maxHeartbeats 4000000 in
theorem rt0 (n : Nat) (W : World) (s6 s7 : Option Addr) (L c6 c7 : Nat)  (Q : Exit → Act → World → Prop) (a : Act) (h0 : SR [(0, .slice s6 L c6), (1, .slice s7 L c7)] 50 [] W a W)
    (hQ : ∀ a, SR [(0, .slice s6 L c6), (1, .slice s7 L c7)] 50 [] (W) a (W) → Q .normal a (W)) : (regOf 0 C20).wpIn Fence.wide n Try.prog Q a W := by
  simp only [regOf, C20, Try.f20, Option.getD, Nat.reduceBEq, Bool.false_eq_true, if_true, if_false]
  refine region_sq (fun k_ a w => match k_ with | 0 => SR [(0, .slice s6 L c6), (1, .slice s7 L c7)] 50 [] (W) a w | 1 => SR [(0, .slice s6 L c6), (1, .slice s7 L c7)] 50 [] (W) a w | _ => SR [(0, .slice s6 L c6), (1, .slice s7 L c7)] 50 [] (W) a w) (show SR _ _ _ _ a W from h0) ⟨?_, ?_, trivial⟩ ?_
  · intro a w hI
    have hI : SR _ _ _ _ a w := hI
    have hw : w = W := hI.wp
    subst hw
    go_simp
    exact hI.put (d := 4) (by decide) (by simp)
  · intro a w hI
    have hI : SR _ _ _ _ a w := hI
    have hw : w = W := hI.wp
    subst hw
    go_simp
    exact hI.put (d := 5) (by decide) (by simp)
  · intro a w hI
    have hI : SR _ _ _ _ a w := hI
    have hw : w = W := hI.wp
    subst hw
    exact hQ a hI
set_option maxRecDepth 100000 in
set_option maxHeartbeats 4000000 in
theorem rt1 (n : Nat) (W : World) (s6 s7 : Option Addr) (L c6 c7 : Nat)  (Q : Exit → Act → World → Prop) (a : Act) (h0 : SR [(0, .slice s6 L c6), (1, .slice s7 L c7)] 50 [] W a W)
    (hQ : ∀ a, SR [(0, .slice s6 L c6), (1, .slice s7 L c7), (6, .int .i64 0)] 50 [] (W) a (W) → Q .normal a (W)) : (regOf 1 C20).wpIn Fence.wide n Try.prog Q a W := by
  simp only [regOf, C20, Try.f20, Option.getD, Nat.reduceBEq, Bool.false_eq_true, if_true, if_false]
  refine region_sq (fun k_ a w => match k_ with | 0 => SR [(0, .slice s6 L c6), (1, .slice s7 L c7)] 50 [] (W) a w | _ => SR [(0, .slice s6 L c6), (1, .slice s7 L c7), (6, .int .i64 0)] 50 [] (W) a w) (show SR _ _ _ _ a W from h0) ⟨?_, trivial⟩ ?_
  · intro a w hI
    have hI : SR _ _ _ _ a w := hI
    have hw : w = W := hI.wp
    subst hw
    go_simp
    exact hI.put (d := 6) (by decide) (by simp)
  · intro a w hI
    have hI : SR _ _ _ _ a w := hI
    have hw : w = W := hI.wp
    subst hw
    exact hQ a hI
set_option maxRecDepth 100000 in
set_option maxHeartbeats 4000000 in
theorem rt2 (n : Nat) (W : World) (s6 s7 : Option Addr) (L c6 c7 : Nat)  (Q : Exit → Act → World → Prop) (a : Act) (h0 : SR [(0, .slice s6 L c6), (1, .slice s7 L c7), (6, .int .i64 0)] 50 [] W a W)
    (hQ : ∀ a, SR [(0, .slice s6 L c6), (1, .slice s7 L c7), (6, .int .i64 0), (7, .int .i64 0)] 50 [] (W) a (W) → Q .normal a (W)) : (regOf 2 C20).wpIn Fence.wide n Try.prog Q a W := by
  simp only [regOf, C20, Try.f20, Option.getD, Nat.reduceBEq, Bool.false_eq_true, if_true, if_false]
  refine region_sq (fun k_ a w => match k_ with | 0 => SR [(0, .slice s6 L c6), (1, .slice s7 L c7), (6, .int .i64 0)] 50 [] (W) a w | _ => SR [(0, .slice s6 L c6), (1, .slice s7 L c7), (6, .int .i64 0), (7, .int .i64 0)] 50 [] (W) a w) (show SR _ _ _ _ a W from h0) ⟨?_, trivial⟩ ?_
  · intro a w hI
    have hI : SR _ _ _ _ a w := hI
    have hw : w = W := hI.wp
    subst hw
    go_simp
    exact hI.put (d := 7) (by decide) (by simp)
  · intro a w hI
    have hI : SR _ _ _ _ a w := hI
    have hw : w = W := hI.wp
    subst hw
    exact hQ a hI
set_option maxRecDepth 100000 in
set_option maxHeartbeats 4000000 in
theorem rt3 (n : Nat) (W : World) (s6 s7 : Option Addr) (L c6 c7 : Nat) (s : Int) (i : Nat)  (Q : Exit → Act → World → Prop) (a : Act) (h0 : SR [(0, .slice s6 L c6), (1, .slice s7 L c7), (6, .int .i64 s), (7, .int .i64 i)] 50 [] W a W)
    (hQ : ∀ a, SR [(0, .slice s6 L c6), (1, .slice s7 L c7), (6, .int .i64 s), (7, .int .i64 i), (14, .bool (decide ((i : Int) < L)))] 50 [] (W) a (W) → Q .normal a (W)) : (regOf 3 C20).wpIn Fence.wide n Try.prog Q a W := by
  simp only [regOf, C20, Try.f20, Option.getD, Nat.reduceBEq, Bool.false_eq_true, if_true, if_false]
  refine region_sq (fun k_ a w => match k_ with | 0 => SR [(0, .slice s6 L c6), (1, .slice s7 L c7), (6, .int .i64 s), (7, .int .i64 i)] 50 [] (W) a w | 1 => SR [(0, .slice s6 L c6), (1, .slice s7 L c7), (6, .int .i64 s), (7, .int .i64 i), (11, .int .i64 i)] 50 [] (W) a w | 2 => SR [(0, .slice s6 L c6), (1, .slice s7 L c7), (6, .int .i64 s), (7, .int .i64 i), (11, .int .i64 i), (12, .slice s7 L c7)] 50 [] (W) a w | 3 => SR [(0, .slice s6 L c6), (1, .slice s7 L c7), (6, .int .i64 s), (7, .int .i64 i), (11, .int .i64 i), (13, .int .i64 L)] 50 [] (W) a w | _ => SR [(0, .slice s6 L c6), (1, .slice s7 L c7), (6, .int .i64 s), (7, .int .i64 i), (14, .bool (decide ((i : Int) < L)))] 50 [] (W) a w) (show SR _ _ _ _ a W from h0) ⟨?_, ?_, ?_, ?_, trivial⟩ ?_
  · intro a w hI
    have hI : SR _ _ _ _ a w := hI
    have e7 := hI.g 7 rfl
    have hw : w = W := hI.wp
    subst hw
    go_simp
    exact hI.put (d := 11) (by decide) (by simp)
  · intro a w hI
    have hI : SR _ _ _ _ a w := hI
    have e1 := hI.g 1 rfl
    have hw : w = W := hI.wp
    subst hw
    go_simp
    exact hI.put (d := 12) (by decide) (by simp)
  · intro a w hI
    have hI : SR _ _ _ _ a w := hI
    have e12 := hI.g 12 rfl
    have hw : w = W := hI.wp
    subst hw
    go_simp
    exact hI.put (d := 13) (by decide) (by simp)
  · intro a w hI
    have hI : SR _ _ _ _ a w := hI
    have e11 := hI.g 11 rfl
    have e13 := hI.g 13 rfl
    have hw : w = W := hI.wp
    subst hw
    go_simp
    exact hI.put (d := 14) (by decide) (by simp)
  · intro a w hI
    have hI : SR _ _ _ _ a w := hI
    have hw : w = W := hI.wp
    subst hw
    exact hQ a hI
set_option maxRecDepth 100000 in
set_option maxHeartbeats 4000000 in
theorem rt5 (n : Nat) {G : World → Prop} (hS : Stable G) (g6 g7 L c6 c7 : Nat) (s : Int) (i : Nat) (p : Sp3) (cv : Option Addr) (k er : Int) (hi : i < L) (k3 : ∀ w, G w → w.cell? ⟨g7, i, none⟩ = some (.pointer cv)) (k0 : ∀ w, G w → w.cell? ⟨g6, i * 3, none⟩ = some (.int .i64 (p.1))) (k1 : ∀ w, G w → w.cell? ⟨g6, i * 3 + 1, none⟩ = some (.int .i64 (p.2.1))) (k2 : ∀ w, G w → w.cell? ⟨g6, i * 3 + 2, none⟩ = some (.int .i64 (p.2.2))) (hc : ∀ m w, G w → CallsIn Fence.wide m Try.prog 18 #[.pointer cv, .agg #[.int .i64 (p.1), .int .i64 (p.2.1), .int .i64 (p.2.2)]] w fun e w' => e = .returned (.tuple #[.int .i64 k, .int .i64 er]) ∧ Below w.heap.size w w') (Q : Exit → Act → World → Prop) (a : Act) (w : World) (h0 : SG [(0, .slice (some ⟨g6, 0, none⟩) L c6), (1, .slice (some ⟨g7, 0, none⟩) L c7), (6, .int .i64 s), (7, .int .i64 i)] 50 G a w)
    (hQ : ∀ a w, SG [(0, .slice (some ⟨g6, 0, none⟩) L c6), (1, .slice (some ⟨g7, 0, none⟩) L c7), (6, .int .i64 s), (7, .int .i64 i), (8, .int .i64 k), (9, .int .i64 er)] 50 G a w → Q .normal a w) : (regOf 5 C20).wpIn Fence.wide n Try.prog Q a w := by
  have hmix : Try.prog.follows .mixedOrders = true := by kernel_rfl
  simp only [regOf, C20, Try.f20, Option.getD, Nat.reduceBEq, Bool.false_eq_true, if_true, if_false]
  refine region_inv (RI [(0, .slice (some ⟨g6, 0, none⟩) L c6), (1, .slice (some ⟨g7, 0, none⟩) L c7), (6, .int .i64 s), (7, .int .i64 i)]
    [(0, 18, .slice (some ⟨g7, 0, none⟩) L c7), (1, 19, .int .i64 i), (2, 20, .pointer (some ⟨g7, i, none⟩)), (3, 21, .pointer cv), (4, 22, .slice (some ⟨g6, 0, none⟩) L c6), (5, 23, .int .i64 i), (6, 24, .pointer (some ⟨g6, i * 3, none⟩)), (7, 25, .agg #[.int .i64 (p.1), .int .i64 (p.2.1), .int .i64 (p.2.2)]), (8, 26, .tuple #[.int .i64 k, .int .i64 er]), (9, 17, .tuple #[.int .i64 k, .int .i64 er]), (10, 27, .int .i64 k), (11, 28, .int .i64 er), (12, 8, .int .i64 k), (13, 9, .int .i64 er)] 50 [] (fun _ w => G w)) hmix (by kernel_rfl) ⟨h0.size, h0.defers, h0.kn, by simp, hS _ _ h0.wp (Below.refl _ _).drew⟩ ⟨?_, ?_, ?_, ?_, ?_, ?_, ?_, ?_, ?_, ?_, ?_, ?_, ?_, ?_, trivial⟩ ?_
  · intro Xs a w hX hdep hC hI
    have e1 := hI.gi 1 rfl
    go_simp
    exact hI.put' (k := 0) (d := 18) (by decide) (by simp) (by simp) (by simp) hI.wp
  · intro Xs a w hX hdep hC hI
    have e7 := hI.gi 7 rfl
    go_simp
    exact hI.put' (k := 1) (d := 19) (by decide) (by simp) (by simp) (by simp) hI.wp
  · intro Xs a w hX hdep hC hI
    have x0 : Xs 0 = true := hdep ⟨0, .data⟩ (by simp) rfl
    have e18 := hI.gk 0 rfl x0
    have x1 : Xs 1 = true := hdep ⟨1, .data⟩ (by simp) rfl
    have e19 := hI.gk 1 rfl x1
    have q1_2 : (0 : Int) ≤ i := by omega
    have q2_2 : (i : Int) < L := by omega
    go_simp
    exact hI.put' (k := 2) (d := 20) (by decide) (by simp) (by simp) (by simp) hI.wp
  · intro Xs a w hX hdep hC hI
    have x2 : Xs 2 = true := hdep ⟨2, .data⟩ (by simp) rfl
    have e20 := hI.gk 2 rfl x2
    have cc0 := k3 w hI.wp
    go_simp
    exact hI.put' (k := 3) (d := 21) (by decide) (by simp) (by simp) (by simp) hI.wp
  · intro Xs a w hX hdep hC hI
    have e0 := hI.gi 0 rfl
    go_simp
    exact hI.put' (k := 4) (d := 22) (by decide) (by simp) (by simp) (by simp) hI.wp
  · intro Xs a w hX hdep hC hI
    have e7 := hI.gi 7 rfl
    go_simp
    exact hI.put' (k := 5) (d := 23) (by decide) (by simp) (by simp) (by simp) hI.wp
  · intro Xs a w hX hdep hC hI
    have x4 : Xs 4 = true := hdep ⟨4, .data⟩ (by simp) rfl
    have e22 := hI.gk 4 rfl x4
    have x5 : Xs 5 = true := hdep ⟨5, .data⟩ (by simp) rfl
    have e23 := hI.gk 5 rfl x5
    have q1_6 : (0 : Int) ≤ i := by omega
    have q2_6 : (i : Int) < L := by omega
    go_simp
    exact hI.put' (k := 6) (d := 24) (by decide) (by simp) (by simp) (by simp) hI.wp
  · intro Xs a w hX hdep hC hI
    have x6 : Xs 6 = true := hdep ⟨6, .data⟩ (by simp) rfl
    have e24 := hI.gk 6 rfl x6
    have cc0 := k0 w hI.wp
    have cc1 := k1 w hI.wp
    have cc2 := k2 w hI.wp
    go_simp
    exact hI.put' (k := 7) (d := 25) (by decide) (by simp) (by simp) (by simp) hI.wp
  · intro Xs a w hX hdep hC hI
    have x3 : Xs 3 = true := hdep ⟨3, .data⟩ (by simp) rfl
    have e21 := hI.gk 3 rfl x3
    have x7 : Xs 7 = true := hdep ⟨7, .data⟩ (by simp) rfl
    have e25 := hI.gk 7 rfl x7
    go_simp
    refine ⟨trivial, fun h => (by cases h), (hc (n - 1) w hI.wp).mono ?_⟩
    rintro e w' ⟨rfl, hb2⟩
    exact hI.put' (k := 8) (d := 26) (by decide) (by simp) (by simp) (by simp) (hS _ _ hI.wp hb2)
  · intro Xs a w hX hdep hC hI
    have x8 : Xs 8 = true := hdep ⟨8, .data⟩ (by simp) rfl
    have e26 := hI.gk 8 rfl x8
    go_simp
    exact hI.put' (k := 9) (d := 17) (by decide) (by simp) (by simp) (by simp) hI.wp
  · intro Xs a w hX hdep hC hI
    have x9 : Xs 9 = true := hdep ⟨9, .data⟩ (by simp) rfl
    have e17 := hI.gk 9 rfl x9
    go_simp
    exact hI.put' (k := 10) (d := 27) (by decide) (by simp) (by simp) (by simp) hI.wp
  · intro Xs a w hX hdep hC hI
    have x9 : Xs 9 = true := hdep ⟨9, .data⟩ (by simp) rfl
    have e17 := hI.gk 9 rfl x9
    go_simp
    exact hI.put' (k := 11) (d := 28) (by decide) (by simp) (by simp) (by simp) hI.wp
  · intro Xs a w hX hdep hC hI
    have x10 : Xs 10 = true := hdep ⟨10, .data⟩ (by simp) rfl
    have e27 := hI.gk 10 rfl x10
    go_simp
    exact hI.put' (k := 12) (d := 8) (by decide) (by simp) (by simp) (by simp) hI.wp
  · intro Xs a w hX hdep hC hI
    have x11 : Xs 11 = true := hdep ⟨11, .data⟩ (by simp) rfl
    have e28 := hI.gk 11 rfl x11
    go_simp
    exact hI.put' (k := 13) (d := 9) (by decide) (by simp) (by simp) (by simp) hI.wp
  · intro Xs a w hX hI
    refine hQ a w ⟨hI.size, hI.defers, ?_, hI.wp⟩
    simp only [List.mem_cons, List.not_mem_nil, or_false, forall_eq_or_imp, forall_eq]
    exact ⟨hI.gi 0 rfl, hI.gi 1 rfl, hI.gi 6 rfl, hI.gi 7 rfl, hI.gk 12 rfl (hX 12 (by simp)), hI.gk 13 rfl (hX 13 (by simp))⟩
set_option maxRecDepth 100000 in
set_option maxHeartbeats 4000000 in
theorem rt6 (n : Nat) (W : World) (s6 s7 : Option Addr) (L c6 c7 : Nat) (s : Int) (i : Nat) (k er : Int)  (Q : Exit → Act → World → Prop) (a : Act) (h0 : SR [(0, .slice s6 L c6), (1, .slice s7 L c7), (6, .int .i64 s), (7, .int .i64 i), (8, .int .i64 k), (9, .int .i64 er)] 50 [] W a W)
    (hQ : ∀ a, SR [(0, .slice s6 L c6), (1, .slice s7 L c7), (6, .int .i64 s), (7, .int .i64 i), (8, .int .i64 k), (9, .int .i64 er), (30, .bool (er != 0))] 50 [] (W) a (W) → Q .normal a (W)) : (regOf 6 C20).wpIn Fence.wide n Try.prog Q a W := by
  simp only [regOf, C20, Try.f20, Option.getD, Nat.reduceBEq, Bool.false_eq_true, if_true, if_false]
  refine region_sq (fun k_ a w => match k_ with | 0 => SR [(0, .slice s6 L c6), (1, .slice s7 L c7), (6, .int .i64 s), (7, .int .i64 i), (8, .int .i64 k), (9, .int .i64 er)] 50 [] (W) a w | 1 => SR [(0, .slice s6 L c6), (1, .slice s7 L c7), (6, .int .i64 s), (7, .int .i64 i), (8, .int .i64 k), (9, .int .i64 er), (29, .int .i64 er)] 50 [] (W) a w | _ => SR [(0, .slice s6 L c6), (1, .slice s7 L c7), (6, .int .i64 s), (7, .int .i64 i), (8, .int .i64 k), (9, .int .i64 er), (30, .bool (er != 0))] 50 [] (W) a w) (show SR _ _ _ _ a W from h0) ⟨?_, ?_, trivial⟩ ?_
  · intro a w hI
    have hI : SR _ _ _ _ a w := hI
    have e9 := hI.g 9 rfl
    have hw : w = W := hI.wp
    subst hw
    go_simp
    exact hI.put (d := 29) (by decide) (by simp)
  · intro a w hI
    have hI : SR _ _ _ _ a w := hI
    have e29 := hI.g 29 rfl
    have hw : w = W := hI.wp
    subst hw
    go_simp
    exact hI.put (d := 30) (by decide) (by simp)
  · intro a w hI
    have hI : SR _ _ _ _ a w := hI
    have hw : w = W := hI.wp
    subst hw
    exact hQ a hI
set_option maxRecDepth 100000 in
set_option maxHeartbeats 4000000 in
theorem rt7 (n : Nat) (W : World) (er : Int) (Q : Exit → Act → World → Prop) (a : Act) (h0 : SR [(9, .int .i64 er)] 50 [] W a W)
    (hQ : ∀ a, SR [(4, .int .i64 0), (5, .int .i64 er)] 50 [] (W) a (W) → Q .normal a (W)) : (regOf 7 C20).wpIn Fence.wide n Try.prog Q a W := by
  simp only [regOf, C20, Try.f20, Option.getD, Nat.reduceBEq, Bool.false_eq_true, if_true, if_false]
  refine region_sq (fun k_ a w => match k_ with | 0 => SR [(9, .int .i64 er)] 50 [] (W) a w | 1 => SR [(31, .int .i64 er)] 50 [] (W) a w | 2 => SR [(31, .int .i64 er), (4, .int .i64 0)] 50 [] (W) a w | _ => SR [(4, .int .i64 0), (5, .int .i64 er)] 50 [] (W) a w) (show SR _ _ _ _ a W from h0) ⟨?_, ?_, ?_, trivial⟩ ?_
  · intro a w hI
    have hI : SR _ _ _ _ a w := hI
    have e9 := hI.g 9 rfl
    have hw : w = W := hI.wp
    subst hw
    go_simp
    exact hI.put (d := 31) (by decide) (by simp)
  · intro a w hI
    have hI : SR _ _ _ _ a w := hI
    have hw : w = W := hI.wp
    subst hw
    go_simp
    exact hI.put (d := 4) (by decide) (by simp)
  · intro a w hI
    have hI : SR _ _ _ _ a w := hI
    have e31 := hI.g 31 rfl
    have hw : w = W := hI.wp
    subst hw
    go_simp
    exact hI.put (d := 5) (by decide) (by simp)
  · intro a w hI
    have hI : SR _ _ _ _ a w := hI
    have hw : w = W := hI.wp
    subst hw
    exact hQ a hI
set_option maxRecDepth 100000 in
set_option maxHeartbeats 4000000 in
theorem rt8 (n : Nat) (W : World) (s6 s7 : Option Addr) (L c6 c7 : Nat) (s : Int) (i : Nat) (k : Int)  (Q : Exit → Act → World → Prop) (a : Act) (h0 : SR [(0, .slice s6 L c6), (1, .slice s7 L c7), (6, .int .i64 s), (7, .int .i64 i), (8, .int .i64 k)] 50 [] W a W)
    (hQ : ∀ a, SR [(0, .slice s6 L c6), (1, .slice s7 L c7), (6, .int .i64 s), (7, .int .i64 i), (8, .int .i64 k), (10, .int .i64 0)] 50 [] (W) a (W) → Q .normal a (W)) : (regOf 8 C20).wpIn Fence.wide n Try.prog Q a W := by
  simp only [regOf, C20, Try.f20, Option.getD, Nat.reduceBEq, Bool.false_eq_true, if_true, if_false]
  refine region_sq (fun k_ a w => match k_ with | 0 => SR [(0, .slice s6 L c6), (1, .slice s7 L c7), (6, .int .i64 s), (7, .int .i64 i), (8, .int .i64 k)] 50 [] (W) a w | _ => SR [(0, .slice s6 L c6), (1, .slice s7 L c7), (6, .int .i64 s), (7, .int .i64 i), (8, .int .i64 k), (10, .int .i64 0)] 50 [] (W) a w) (show SR _ _ _ _ a W from h0) ⟨?_, trivial⟩ ?_
  · intro a w hI
    have hI : SR _ _ _ _ a w := hI
    have hw : w = W := hI.wp
    subst hw
    go_simp
    exact hI.put (d := 10) (by decide) (by simp)
  · intro a w hI
    have hI : SR _ _ _ _ a w := hI
    have hw : w = W := hI.wp
    subst hw
    exact hQ a hI
set_option maxRecDepth 100000 in
set_option maxHeartbeats 4000000 in
theorem rt9 (n : Nat) (W : World) (s6 s7 : Option Addr) (L c6 c7 : Nat) (s : Int) (i : Nat) (k : Int) (j : Nat)  (Q : Exit → Act → World → Prop) (a : Act) (h0 : SR [(0, .slice s6 L c6), (1, .slice s7 L c7), (6, .int .i64 s), (7, .int .i64 i), (8, .int .i64 k), (10, .int .i64 j)] 50 [] W a W)
    (hQ : ∀ a, SR [(0, .slice s6 L c6), (1, .slice s7 L c7), (6, .int .i64 s), (7, .int .i64 i), (8, .int .i64 k), (10, .int .i64 j), (34, .bool (decide ((j : Int) < i)))] 50 [] (W) a (W) → Q .normal a (W)) : (regOf 9 C20).wpIn Fence.wide n Try.prog Q a W := by
  simp only [regOf, C20, Try.f20, Option.getD, Nat.reduceBEq, Bool.false_eq_true, if_true, if_false]
  refine region_sq (fun k_ a w => match k_ with | 0 => SR [(0, .slice s6 L c6), (1, .slice s7 L c7), (6, .int .i64 s), (7, .int .i64 i), (8, .int .i64 k), (10, .int .i64 j)] 50 [] (W) a w | 1 => SR [(0, .slice s6 L c6), (1, .slice s7 L c7), (6, .int .i64 s), (7, .int .i64 i), (8, .int .i64 k), (10, .int .i64 j), (32, .int .i64 j)] 50 [] (W) a w | 2 => SR [(0, .slice s6 L c6), (1, .slice s7 L c7), (6, .int .i64 s), (7, .int .i64 i), (8, .int .i64 k), (10, .int .i64 j), (32, .int .i64 j), (33, .int .i64 i)] 50 [] (W) a w | _ => SR [(0, .slice s6 L c6), (1, .slice s7 L c7), (6, .int .i64 s), (7, .int .i64 i), (8, .int .i64 k), (10, .int .i64 j), (34, .bool (decide ((j : Int) < i)))] 50 [] (W) a w) (show SR _ _ _ _ a W from h0) ⟨?_, ?_, ?_, trivial⟩ ?_
  · intro a w hI
    have hI : SR _ _ _ _ a w := hI
    have e10 := hI.g 10 rfl
    have hw : w = W := hI.wp
    subst hw
    go_simp
    exact hI.put (d := 32) (by decide) (by simp)
  · intro a w hI
    have hI : SR _ _ _ _ a w := hI
    have e7 := hI.g 7 rfl
    have hw : w = W := hI.wp
    subst hw
    go_simp
    exact hI.put (d := 33) (by decide) (by simp)
  · intro a w hI
    have hI : SR _ _ _ _ a w := hI
    have e32 := hI.g 32 rfl
    have e33 := hI.g 33 rfl
    have hw : w = W := hI.wp
    subst hw
    go_simp
    exact hI.put (d := 34) (by decide) (by simp)
  · intro a w hI
    have hI : SR _ _ _ _ a w := hI
    have hw : w = W := hI.wp
    subst hw
    exact hQ a hI
set_option maxRecDepth 100000 in
set_option maxHeartbeats 4000000 in
theorem rt11 (n : Nat) {G : World → Prop} (hS : Stable G) (g6 g7 L c6 c7 : Nat) (s : Int) (i : Nat) (k : Int) (j : Nat) (p q : Sp3) (hp : okS p) (hq : okS q) (hi : i < L) (hj : j < L) (m0 : ∀ w, G w → w.cell? ⟨g6, j * 3, none⟩ = some (.int .i64 (q.1))) (m1 : ∀ w, G w → w.cell? ⟨g6, j * 3 + 1, none⟩ = some (.int .i64 (q.2.1))) (m2 : ∀ w, G w → w.cell? ⟨g6, j * 3 + 2, none⟩ = some (.int .i64 (q.2.2))) (k0 : ∀ w, G w → w.cell? ⟨g6, i * 3, none⟩ = some (.int .i64 (p.1))) (k1 : ∀ w, G w → w.cell? ⟨g6, i * 3 + 1, none⟩ = some (.int .i64 (p.2.1))) (k2 : ∀ w, G w → w.cell? ⟨g6, i * 3 + 2, none⟩ = some (.int .i64 (p.2.2))) (Q : Exit → Act → World → Prop) (a : Act) (w : World) (h0 : SG [(0, .slice (some ⟨g6, 0, none⟩) L c6), (1, .slice (some ⟨g7, 0, none⟩) L c7), (6, .int .i64 s), (7, .int .i64 i), (8, .int .i64 k), (10, .int .i64 j)] 50 G a w)
    (hQ : ∀ a w, SG [(0, .slice (some ⟨g6, 0, none⟩) L c6), (1, .slice (some ⟨g7, 0, none⟩) L c7), (6, .int .i64 s), (7, .int .i64 i), (8, .int .i64 k), (10, .int .i64 j), (45, .bool (decide (q = p)))] 50 G a w → Q .normal a w) : (regOf 11 C20).wpIn Fence.wide n Try.prog Q a w := by
  have hmix : Try.prog.follows .mixedOrders = true := by kernel_rfl
  simp only [regOf, C20, Try.f20, Option.getD, Nat.reduceBEq, Bool.false_eq_true, if_true, if_false]
  refine region_inv (RI [(0, .slice (some ⟨g6, 0, none⟩) L c6), (1, .slice (some ⟨g7, 0, none⟩) L c7), (6, .int .i64 s), (7, .int .i64 i), (8, .int .i64 k), (10, .int .i64 j)]
    [(0, 37, .slice (some ⟨g6, 0, none⟩) L c6), (1, 38, .int .i64 j), (2, 39, .pointer (some ⟨g6, j * 3, none⟩)), (3, 40, .agg #[.int .i64 (q.1), .int .i64 (q.2.1), .int .i64 (q.2.2)]), (4, 41, .slice (some ⟨g6, 0, none⟩) L c6), (5, 42, .int .i64 i), (6, 43, .pointer (some ⟨g6, i * 3, none⟩)), (7, 44, .agg #[.int .i64 (p.1), .int .i64 (p.2.1), .int .i64 (p.2.2)]), (8, 45, .bool (decide (q = p)))] 50 [] (fun _ w => G w)) hmix (by kernel_rfl) ⟨h0.size, h0.defers, h0.kn, by simp, hS _ _ h0.wp (Below.refl _ _).drew⟩ ⟨?_, ?_, ?_, ?_, ?_, ?_, ?_, ?_, ?_, trivial⟩ ?_
  · intro Xs a w hX hdep hC hI
    have e0 := hI.gi 0 rfl
    go_simp
    exact hI.put' (k := 0) (d := 37) (by decide) (by simp) (by simp) (by simp) hI.wp
  · intro Xs a w hX hdep hC hI
    have e10 := hI.gi 10 rfl
    go_simp
    exact hI.put' (k := 1) (d := 38) (by decide) (by simp) (by simp) (by simp) hI.wp
  · intro Xs a w hX hdep hC hI
    have x0 : Xs 0 = true := hdep ⟨0, .data⟩ (by simp) rfl
    have e37 := hI.gk 0 rfl x0
    have x1 : Xs 1 = true := hdep ⟨1, .data⟩ (by simp) rfl
    have e38 := hI.gk 1 rfl x1
    have q1_2 : (0 : Int) ≤ j := by omega
    have q2_2 : (j : Int) < L := by omega
    go_simp
    exact hI.put' (k := 2) (d := 39) (by decide) (by simp) (by simp) (by simp) hI.wp
  · intro Xs a w hX hdep hC hI
    have x2 : Xs 2 = true := hdep ⟨2, .data⟩ (by simp) rfl
    have e39 := hI.gk 2 rfl x2
    have cc0 := m0 w hI.wp
    have cc1 := m1 w hI.wp
    have cc2 := m2 w hI.wp
    go_simp
    exact hI.put' (k := 3) (d := 40) (by decide) (by simp) (by simp) (by simp) hI.wp
  · intro Xs a w hX hdep hC hI
    have e0 := hI.gi 0 rfl
    go_simp
    exact hI.put' (k := 4) (d := 41) (by decide) (by simp) (by simp) (by simp) hI.wp
  · intro Xs a w hX hdep hC hI
    have e7 := hI.gi 7 rfl
    go_simp
    exact hI.put' (k := 5) (d := 42) (by decide) (by simp) (by simp) (by simp) hI.wp
  · intro Xs a w hX hdep hC hI
    have x4 : Xs 4 = true := hdep ⟨4, .data⟩ (by simp) rfl
    have e41 := hI.gk 4 rfl x4
    have x5 : Xs 5 = true := hdep ⟨5, .data⟩ (by simp) rfl
    have e42 := hI.gk 5 rfl x5
    have q1_6 : (0 : Int) ≤ i := by omega
    have q2_6 : (i : Int) < L := by omega
    go_simp
    exact hI.put' (k := 6) (d := 43) (by decide) (by simp) (by simp) (by simp) hI.wp
  · intro Xs a w hX hdep hC hI
    have x6 : Xs 6 = true := hdep ⟨6, .data⟩ (by simp) rfl
    have e43 := hI.gk 6 rfl x6
    have cc0 := k0 w hI.wp
    have cc1 := k1 w hI.wp
    have cc2 := k2 w hI.wp
    go_simp
    exact hI.put' (k := 7) (d := 44) (by decide) (by simp) (by simp) (by simp) hI.wp
  · intro Xs a w hX hdep hC hI
    have x3 : Xs 3 = true := hdep ⟨3, .data⟩ (by simp) rfl
    have e40 := hI.gk 3 rfl x3
    have x7 : Xs 7 = true := hdep ⟨7, .data⟩ (by simp) rfl
    have e44 := hI.gk 7 rfl x7
    rw [if_pos (by simp [Region.wanted])]
    refine operIn_bin .eql (.tmp 40) (.tmp 44) 33 33 rfl (.bool (decide (q = p))) (by rw [eval_tmp, eval_tmp, e40, e44]; exact guard33 _ _ _ _ _ _) (by rw [eval_tmp, eval_tmp, e40, e44]; exact eql33 hq hp _) ?_
    exact hI.put' (k := 8) (d := 45) (v := .bool (decide (q = p))) (by decide) (by simp) (by simp) (by simp) hI.wp
  · intro Xs a w hX hI
    refine hQ a w ⟨hI.size, hI.defers, ?_, hI.wp⟩
    simp only [List.mem_cons, List.not_mem_nil, or_false, forall_eq_or_imp, forall_eq]
    exact ⟨hI.gi 0 rfl, hI.gi 1 rfl, hI.gi 6 rfl, hI.gi 7 rfl, hI.gi 8 rfl, hI.gi 10 rfl, hI.gk 8 rfl (hX 8 (by simp))⟩
set_option maxRecDepth 100000 in
set_option maxHeartbeats 4000000 in
theorem rt12 (n : Nat) (W : World)  (Q : Exit → Act → World → Prop) (a : Act) (h0 : SR [] 50 [] W a W)
    (hQ : ∀ a, SR [(4, .int .i64 0), (5, .int .i64 6)] 50 [] (W) a (W) → Q .normal a (W)) : (regOf 12 C20).wpIn Fence.wide n Try.prog Q a W := by
  simp only [regOf, C20, Try.f20, Option.getD, Nat.reduceBEq, Bool.false_eq_true, if_true, if_false]
  refine region_sq (fun k_ a w => match k_ with | 0 => SR [] 50 [] (W) a w | 1 => SR [(4, .int .i64 0)] 50 [] (W) a w | _ => SR [(4, .int .i64 0), (5, .int .i64 6)] 50 [] (W) a w) (show SR _ _ _ _ a W from h0) ⟨?_, ?_, trivial⟩ ?_
  · intro a w hI
    have hI : SR _ _ _ _ a w := hI
    have hw : w = W := hI.wp
    subst hw
    go_simp
    exact hI.put (d := 4) (by decide) (by simp)
  · intro a w hI
    have hI : SR _ _ _ _ a w := hI
    have hw : w = W := hI.wp
    subst hw
    go_simp
    exact hI.put (d := 5) (by decide) (by simp)
  · intro a w hI
    have hI : SR _ _ _ _ a w := hI
    have hw : w = W := hI.wp
    subst hw
    exact hQ a hI
set_option maxRecDepth 100000 in
set_option maxHeartbeats 4000000 in
theorem rt10 (n : Nat) (W : World) (s6 s7 : Option Addr) (L c6 c7 : Nat) (s : Int) (i : Nat) (k : Int) (j : Nat) (hj : j < L) (hL : L ≤ 4294967296) (Q : Exit → Act → World → Prop) (a : Act) (h0 : SR [(0, .slice s6 L c6), (1, .slice s7 L c7), (6, .int .i64 s), (7, .int .i64 i), (8, .int .i64 k), (10, .int .i64 j)] 50 [] W a W)
    (hQ : ∀ a, SR [(0, .slice s6 L c6), (1, .slice s7 L c7), (6, .int .i64 s), (7, .int .i64 i), (8, .int .i64 k), (10, .int .i64 ((j : Int) + 1))] 50 [] (W) a (W) → Q .normal a (W)) : (regOf 10 C20).wpIn Fence.wide n Try.prog Q a W := by
  simp only [regOf, C20, Try.f20, Option.getD, Nat.reduceBEq, Bool.false_eq_true, if_true, if_false]
  refine region_sq (fun k_ a w => match k_ with | 0 => SR [(0, .slice s6 L c6), (1, .slice s7 L c7), (6, .int .i64 s), (7, .int .i64 i), (8, .int .i64 k), (10, .int .i64 j)] 50 [] (W) a w | 1 => SR [(0, .slice s6 L c6), (1, .slice s7 L c7), (6, .int .i64 s), (7, .int .i64 i), (8, .int .i64 k), (35, .int .i64 j)] 50 [] (W) a w | 2 => SR [(0, .slice s6 L c6), (1, .slice s7 L c7), (6, .int .i64 s), (7, .int .i64 i), (8, .int .i64 k), (36, .int .i64 ((j : Int) + 1))] 50 [] (W) a w | _ => SR [(0, .slice s6 L c6), (1, .slice s7 L c7), (6, .int .i64 s), (7, .int .i64 i), (8, .int .i64 k), (10, .int .i64 ((j : Int) + 1))] 50 [] (W) a w) (show SR _ _ _ _ a W from h0) ⟨?_, ?_, ?_, trivial⟩ ?_
  · intro a w hI
    have hI : SR _ _ _ _ a w := hI
    have e10 := hI.g 10 rfl
    have hw : w = W := hI.wp
    subst hw
    go_simp
    exact hI.put (d := 35) (by decide) (by simp)
  · intro a w hI
    have hI : SR _ _ _ _ a w := hI
    have e35 := hI.g 35 rfl
    have hw : w = W := hI.wp
    subst hw
    have hw1 : IntKind.i64.wrap ((j : Int) + 1) = (j : Int) + 1 := IntWalk.i64_in _ (by omega)
    go_simp
    exact hI.put (d := 36) (by decide) (by simp)
  · intro a w hI
    have hI : SR _ _ _ _ a w := hI
    have e36 := hI.g 36 rfl
    have hw : w = W := hI.wp
    subst hw
    go_simp
    exact hI.put (d := 10) (by decide) (by simp)
  · intro a w hI
    have hI : SR _ _ _ _ a w := hI
    have hw : w = W := hI.wp
    subst hw
    exact hQ a hI
set_option maxRecDepth 100000 in
set_option maxHeartbeats 4000000 in
theorem rt13 (n : Nat) (W : World) (s6 s7 : Option Addr) (L c6 c7 : Nat) (s : Int) (i : Nat) (k : Int) (h1 : -9223372036854775808 ≤ s + k) (h2 : s + k ≤ 9223372036854775807) (Q : Exit → Act → World → Prop) (a : Act) (h0 : SR [(0, .slice s6 L c6), (1, .slice s7 L c7), (6, .int .i64 s), (7, .int .i64 i), (8, .int .i64 k)] 50 [] W a W)
    (hQ : ∀ a, SR [(0, .slice s6 L c6), (1, .slice s7 L c7), (6, .int .i64 ((s : Int) + k)), (7, .int .i64 i)] 50 [] (W) a (W) → Q .normal a (W)) : (regOf 13 C20).wpIn Fence.wide n Try.prog Q a W := by
  simp only [regOf, C20, Try.f20, Option.getD, Nat.reduceBEq, Bool.false_eq_true, if_true, if_false]
  refine region_sq (fun k_ a w => match k_ with | 0 => SR [(0, .slice s6 L c6), (1, .slice s7 L c7), (6, .int .i64 s), (7, .int .i64 i), (8, .int .i64 k)] 50 [] (W) a w | 1 => SR [(0, .slice s6 L c6), (1, .slice s7 L c7), (7, .int .i64 i), (8, .int .i64 k), (46, .int .i64 s)] 50 [] (W) a w | 2 => SR [(0, .slice s6 L c6), (1, .slice s7 L c7), (7, .int .i64 i), (46, .int .i64 s), (47, .int .i64 k)] 50 [] (W) a w | 3 => SR [(0, .slice s6 L c6), (1, .slice s7 L c7), (7, .int .i64 i), (48, .int .i64 ((s : Int) + k))] 50 [] (W) a w | _ => SR [(0, .slice s6 L c6), (1, .slice s7 L c7), (7, .int .i64 i), (6, .int .i64 ((s : Int) + k))] 50 [] (W) a w) (show SR _ _ _ _ a W from h0) ⟨?_, ?_, ?_, ?_, trivial⟩ ?_
  · intro a w hI
    have hI : SR _ _ _ _ a w := hI
    have e6 := hI.g 6 rfl
    have hw : w = W := hI.wp
    subst hw
    go_simp
    exact hI.put (d := 46) (by decide) (by simp)
  · intro a w hI
    have hI : SR _ _ _ _ a w := hI
    have e8 := hI.g 8 rfl
    have hw : w = W := hI.wp
    subst hw
    go_simp
    exact hI.put (d := 47) (by decide) (by simp)
  · intro a w hI
    have hI : SR _ _ _ _ a w := hI
    have e46 := hI.g 46 rfl
    have e47 := hI.g 47 rfl
    have hw : w = W := hI.wp
    subst hw
    have hw2 : IntKind.i64.wrap ((s : Int) + k) = (s : Int) + k := IntWalk.i64_in _ (by omega)
    go_simp
    exact hI.put (d := 48) (by decide) (by simp)
  · intro a w hI
    have hI : SR _ _ _ _ a w := hI
    have e48 := hI.g 48 rfl
    have hw : w = W := hI.wp
    subst hw
    go_simp
    exact hI.put (d := 6) (by decide) (by simp)
  · intro a w hI
    have hI : SR _ _ _ _ a w := hI
    have hw : w = W := hI.wp
    subst hw
    exact hQ a (hI.sub (by intro p hp; simp only [List.mem_cons, List.not_mem_nil, or_false] at hp ⊢; rcases hp with h | h | h | h <;> simp [h]))
set_option maxRecDepth 100000 in
set_option maxHeartbeats 4000000 in
theorem rt4 (n : Nat) (W : World) (s6 s7 : Option Addr) (L c6 c7 : Nat) (s : Int) (i : Nat) (hi : i < L) (hL : L ≤ 4294967296) (Q : Exit → Act → World → Prop) (a : Act) (h0 : SR [(0, .slice s6 L c6), (1, .slice s7 L c7), (6, .int .i64 s), (7, .int .i64 i)] 50 [] W a W)
    (hQ : ∀ a, SR [(0, .slice s6 L c6), (1, .slice s7 L c7), (6, .int .i64 s), (7, .int .i64 ((i : Int) + 1))] 50 [] (W) a (W) → Q .normal a (W)) : (regOf 4 C20).wpIn Fence.wide n Try.prog Q a W := by
  simp only [regOf, C20, Try.f20, Option.getD, Nat.reduceBEq, Bool.false_eq_true, if_true, if_false]
  refine region_sq (fun k_ a w => match k_ with | 0 => SR [(0, .slice s6 L c6), (1, .slice s7 L c7), (6, .int .i64 s), (7, .int .i64 i)] 50 [] (W) a w | 1 => SR [(0, .slice s6 L c6), (1, .slice s7 L c7), (6, .int .i64 s), (15, .int .i64 i)] 50 [] (W) a w | 2 => SR [(0, .slice s6 L c6), (1, .slice s7 L c7), (6, .int .i64 s), (16, .int .i64 ((i : Int) + 1))] 50 [] (W) a w | _ => SR [(0, .slice s6 L c6), (1, .slice s7 L c7), (6, .int .i64 s), (7, .int .i64 ((i : Int) + 1))] 50 [] (W) a w) (show SR _ _ _ _ a W from h0) ⟨?_, ?_, ?_, trivial⟩ ?_
  · intro a w hI
    have hI : SR _ _ _ _ a w := hI
    have e7 := hI.g 7 rfl
    have hw : w = W := hI.wp
    subst hw
    go_simp
    exact hI.put (d := 15) (by decide) (by simp)
  · intro a w hI
    have hI : SR _ _ _ _ a w := hI
    have e15 := hI.g 15 rfl
    have hw : w = W := hI.wp
    subst hw
    have hw1 : IntKind.i64.wrap ((i : Int) + 1) = (i : Int) + 1 := IntWalk.i64_in _ (by omega)
    go_simp
    exact hI.put (d := 16) (by decide) (by simp)
  · intro a w hI
    have hI : SR _ _ _ _ a w := hI
    have e16 := hI.g 16 rfl
    have hw : w = W := hI.wp
    subst hw
    go_simp
    exact hI.put (d := 7) (by decide) (by simp)
  · intro a w hI
    have hI : SR _ _ _ _ a w := hI
    have hw : w = W := hI.wp
    subst hw
    exact hQ a hI
set_option maxRecDepth 100000 in
set_option maxHeartbeats 4000000 in
theorem rt14 (n : Nat) (W : World) (s : Int) (Q : Exit → Act → World → Prop) (a : Act) (h0 : SR [(6, .int .i64 s)] 50 [] W a W)
    (hQ : ∀ a, SR [(4, .int .i64 s), (5, .int .i64 0)] 50 [] (W) a (W) → Q .normal a (W)) : (regOf 14 C20).wpIn Fence.wide n Try.prog Q a W := by
  simp only [regOf, C20, Try.f20, Option.getD, Nat.reduceBEq, Bool.false_eq_true, if_true, if_false]
  refine region_sq (fun k_ a w => match k_ with | 0 => SR [(6, .int .i64 s)] 50 [] (W) a w | 1 => SR [(49, .int .i64 s)] 50 [] (W) a w | 2 => SR [(4, .int .i64 s)] 50 [] (W) a w | _ => SR [(4, .int .i64 s), (5, .int .i64 0)] 50 [] (W) a w) (show SR _ _ _ _ a W from h0) ⟨?_, ?_, ?_, trivial⟩ ?_
  · intro a w hI
    have hI : SR _ _ _ _ a w := hI
    have e6 := hI.g 6 rfl
    have hw : w = W := hI.wp
    subst hw
    go_simp
    exact hI.put (d := 49) (by decide) (by simp)
  · intro a w hI
    have hI : SR _ _ _ _ a w := hI
    have e49 := hI.g 49 rfl
    have hw : w = W := hI.wp
    subst hw
    go_simp
    exact hI.put (d := 4) (by decide) (by simp)
  · intro a w hI
    have hI : SR _ _ _ _ a w := hI
    have hw : w = W := hI.wp
    subst hw
    go_simp
    exact hI.put (d := 5) (by decide) (by simp)
  · intro a w hI
    have hI : SR _ _ _ _ a w := hI
    have hw : w = W := hI.wp
    subst hw
    exact hQ a hI
/-- Rows of spots and of chunks. -/
structure Row3 (w : World) (g6 g7 : Nat) (l : List Hd) : Prop where
  cells : ∀ i h, l[i]? = some h → w.cell? ⟨g6, i * 3, none⟩ = some (.int .i64 h.sp.1) ∧ w.cell? ⟨g6, i * 3 + 1, none⟩ = some (.int .i64 h.sp.2.1) ∧ w.cell? ⟨g6, i * 3 + 2, none⟩ = some (.int .i64 h.sp.2.2) ∧ w.cell? ⟨g7, i, none⟩ = some (.pointer h.ptr)
  ok : ∀ h ∈ l, okS h.sp ∧ h.lies w
  lt : 0 < l.length → g6 < w.heap.size ∧ g7 < w.heap.size
theorem Row3.below {w w' : World} {g6 g7 : Nat} {l : List Hd} (h : Row3 w g6 g7 l) (hb : Below w.heap.size w w') : Row3 w' g6 g7 l where
  cells i x hx := by
    obtain ⟨l6, l7⟩ := h.lt (by have := (List.getElem?_eq_some_iff.1 hx).1; omega)
    obtain ⟨h0, h1, h2, h3⟩ := h.cells i x hx
    exact ⟨(hb.cell (p := ⟨g6, i * 3, none⟩) l6).trans h0, (hb.cell (p := ⟨g6, i * 3 + 1, none⟩) l6).trans h1, (hb.cell (p := ⟨g6, i * 3 + 2, none⟩) l6).trans h2, (hb.cell (p := ⟨g7, i, none⟩) l7).trans h3⟩
  ok x hx := ⟨(h.ok x hx).1, Hd.lies_below (h.ok x hx).2 hb⟩
  lt hl := ⟨Nat.lt_of_lt_of_le (h.lt hl).1 hb.size, Nat.lt_of_lt_of_le (h.lt hl).2 hb.size⟩
theorem C20_eq : C20 = .seq (regOf 0 C20) (.seq (regOf 1 C20) (.seq (.seq (regOf 2 C20) (.block 0 (.loop (.seq (.seq (regOf 3 C20) (.cond (.tmp 14) .skip (.exit 0))) (.seq (.block 1 (.seq (regOf 5 C20) (.seq (.seq (regOf 6 C20) (.cond (.tmp 30) (.seq (regOf 7 C20) .ret) .skip)) (.seq (.seq (regOf 8 C20) (.block 2 (.loop (.seq (.seq (regOf 9 C20) (.cond (.tmp 34) .skip (.exit 2))) (.seq (.block 3 (.seq (regOf 11 C20) (.cond (.tmp 45) (.seq (regOf 12 C20) .ret) .skip))) (regOf 10 C20)))))) (regOf 13 C20))))) (regOf 4 C20)))))) (.seq (regOf 14 C20) .ret))) := by kernel_rfl
theorem ret20 {w w0 : World} {a : Act} {s e : Int} (hs : SR [(4, .int .i64 s), (5, .int .i64 e)] 50 [] w a w) (hb : Below w0.heap.size w0 w) : bodyPost Try.prog Try.f20 (fun x w' => x = .returned (.tuple #[.int .i64 s, .int .i64 e]) ∧ Below w0.heap.size w0 w') .ret a w :=
  ⟨hs.defers, _, results_tmp2 (t := 4) (u := 5) rfl _ _ _, by rw [Array.getD_eq_getD_getElem?, Array.getD_eq_getD_getElem?, hs.g 4 rfl, hs.g 5 rfl], hb⟩
abbrev st20 (s6 s7 : Option Addr) (L c6 c7 : Nat) (s : Int) (i : Nat) : List (Nat × Value) := [(0, .slice s6 L c6), (1, .slice s7 L c7), (6, .int .i64 s), (7, .int .i64 i)]
set_option maxHeartbeats 4000000 in
theorem rtot_in {l : List Hd} {w : World} {g6 g7 c6 c7 : Nat} {s6 s7 : Option Addr} (hgp : 0 < l.length → s6 = some ⟨g6, 0, none⟩ ∧ s7 = some ⟨g7, 0, none⟩) (hR : Row3 w g6 g7 l) (hL : l.length ≤ 100000) (n : Nat) :
    CallsIn Fence.wide n Try.prog 20 #[.slice s6 l.length c6, .slice s7 l.length c7] w fun e w' => e = .returned (.tuple #[.int .i64 (totS l [] 0).1, .int .i64 (totS l [] 0).2]) ∧ Below w.heap.size w w' := by
  refine callsIn_of_wp Try.func20 rfl trivial ?_
  show C20.wpIn _ _ _ _ _ _
  rw [C20_eq]
  refine wpIn_seq (rt0 n w s6 s7 l.length c6 c7 _ _ ⟨by simp [Try.ntmps20], rfl, by simp [Try.ntmps20], rfl⟩ ?_)
  intro a0 h0
  refine wpIn_seq (rt1 n w s6 s7 l.length c6 c7 _ a0 h0 ?_)
  intro a1 h1
  refine wpIn_seq (wpIn_seq (rt2 n w s6 s7 l.length c6 c7 _ a1 h1 ?_))
  intro a2 h2
  refine wpIn_block (wpIn_loop (fun a w' => ∃ i s, i ≤ l.length ∧ totS l [] 0 = totS (l.drop i) ((l.take i).map Hd.sp) s ∧ (-4096 * (i : Int) ≤ s ∧ s ≤ 4096 * (i : Int)) ∧ SG (st20 s6 s7 l.length c6 c7 s i) 50 (Below w.heap.size w) a w') (fun a _ => l.length - slotN 7 a) ⟨0, 0, Nat.zero_le _, rfl, by omega, h2.sg (Below.refl _ _)⟩ ?_)
  rintro a w4 ⟨i, s, hi, htot, hsb, ha⟩
  have e7 := ha.slot (t := 7) (v := i) (k := .i64) (by simp)
  have hG := ha.wp
  refine wpIn_seq (wpIn_seq (rt3 n w4 s6 s7 l.length c6 c7 s i _ a ha.sr ?_))
  intro a5 h5
  by_cases hlt : i < l.length
  · refine wpIn_cond (t := true) (by rw [eval_tmp, h5.g 14 rfl, decide_eq_true (by omega)]) (wpIn_skip (wpIn_seq (wpIn_block ?_)))
    obtain ⟨rfl, rfl⟩ := hgp (by omega)
    have hR4 := hR.below hG
    obtain ⟨h, hh⟩ : ∃ h, l[i]? = some h := ⟨l[i], List.getElem?_eq_getElem hlt⟩
    have hmem : h ∈ l := List.mem_of_getElem? hh
    have hd : l.drop i = h :: l.drop (i + 1) := by rw [List.drop_eq_getElem_cons hlt]; rw [List.getElem?_eq_getElem hlt] at hh; cases hh; rfl
    have htk : (l.take (i + 1)).map Hd.sp = (l.take i).map Hd.sp ++ [h.sp] := by rw [List.take_add_one, hh]; simp
    rw [hd] at htot
    have hok := (hR4.ok h hmem).1
    refine wpIn_seq (rt5 n belS g6 g7 l.length c6 c7 s i h.sp h.ptr (moreS h).1 (moreS h).2 hlt (fun w hw => ((hR.below hw).cells i h hh).2.2.2) (fun w hw => ((hR.below hw).cells i h hh).1) (fun w hw => ((hR.below hw).cells i h hh).2.1) (fun w hw => ((hR.below hw).cells i h hh).2.2.1) (fun m w' hw => rmore_all hok ((hR.below hw).ok h hmem).2 m) _ a5 w4 ((h5.sub (by simp)).sg hG) ?_)
    intro a6 w6 h6
    have hG6 := h6.wp
    refine wpIn_seq (wpIn_seq (rt6 n w6 _ _ l.length c6 c7 s i (moreS h).1 (moreS h).2 _ a6 h6.sr ?_))
    intro a7 h7
    by_cases her : (moreS h).2 = 0
    · refine wpIn_cond (t := false) (by rw [eval_tmp, h7.g 30 rfl]; simp [her]) (wpIn_skip ?_)
      refine wpIn_seq (wpIn_seq (rt8 n w6 (some ⟨g6, 0, none⟩) (some ⟨g7, 0, none⟩) l.length c6 c7 s i (moreS h).1 _ a7 (h7.sub (by simp)) ?_))
      intro a8 h8
      refine wpIn_block (wpIn_loop (fun a w' => ∃ j, j ≤ i ∧ (∀ q ∈ (l.take j).map Hd.sp, q ≠ h.sp) ∧ SG (st20 (some ⟨g6, 0, none⟩) (some ⟨g7, 0, none⟩) l.length c6 c7 s i ++ [(8, .int .i64 (moreS h).1), (10, .int .i64 (j : Nat))]) 50 (Below w.heap.size w) a w') (fun a _ => i - slotN 10 a) ⟨0, Nat.zero_le _, by simp, h8.sg hG6⟩ ?_)
      rintro a w8 ⟨j, hj, hnot, haj⟩
      have e10 := haj.slot (t := 10) (v := j) (k := .i64) (by simp)
      have hG8 := haj.wp
      refine wpIn_seq (wpIn_seq (rt9 n w8 (some ⟨g6, 0, none⟩) (some ⟨g7, 0, none⟩) l.length c6 c7 s i (moreS h).1 j _ a haj.sr ?_))
      intro a9 h9
      by_cases hlt2 : j < i
      · refine wpIn_cond (t := true) (by rw [eval_tmp, h9.g 34 rfl, decide_eq_true (by omega)]) (wpIn_skip (wpIn_seq (wpIn_block ?_)))
        have hjl : j < l.length := by omega
        obtain ⟨h', hh'⟩ : ∃ h, l[j]? = some h := ⟨l[j], List.getElem?_eq_getElem hjl⟩
        have hmem' : h' ∈ l := List.mem_of_getElem? hh'
        refine wpIn_seq (rt11 n belS g6 g7 l.length c6 c7 s i (moreS h).1 j h.sp h'.sp hok (hR4.ok h' hmem').1 hlt hjl (fun w hw => ((hR.below hw).cells j h' hh').1) (fun w hw => ((hR.below hw).cells j h' hh').2.1) (fun w hw => ((hR.below hw).cells j h' hh').2.2.1) (fun w hw => ((hR.below hw).cells i h hh).1) (fun w hw => ((hR.below hw).cells i h hh).2.1) (fun w hw => ((hR.below hw).cells i h hh).2.2.1) _ a9 w8 ((h9.sub (by simp)).sg hG8) ?_)
        intro a10 w10 h10
        have hG10 := h10.wp
        by_cases hq : h'.sp = h.sp
        · refine wpIn_cond (t := true) (by rw [eval_tmp, h10.g 45 rfl, decide_eq_true hq]) (wpIn_seq ?_)
          refine rt12 n w10 _ a10 (h10.sub (by simp)).sr ?_
          intro a11 h11
          have hin : h.sp ∈ (l.take i).map Hd.sp := List.mem_map.2 ⟨h', List.mem_iff_getElem?.2 ⟨j, by rw [List.getElem?_take_of_lt hlt2]; exact hh'⟩, hq⟩
          have et : totS l [] 0 = (0, 6) := by rw [htot]; unfold totS; rw [if_pos her, if_pos hin]
          rw [et]
          exact wpIn_ret (ret20 h11 hG10)
        · refine wpIn_cond (t := false) (by rw [eval_tmp, h10.g 45 rfl, decide_eq_false hq]) (wpIn_skip ?_)
          show (regOf 10 C20).wpIn _ _ _ _ _ _
          refine rt10 n w10 (some ⟨g6, 0, none⟩) (some ⟨g7, 0, none⟩) l.length c6 c7 s i (moreS h).1 j hjl (by omega) _ a10 (h10.sub (by simp)).sr ?_
          intro a11 h11
          have h11 : SG (st20 (some ⟨g6, 0, none⟩) (some ⟨g7, 0, none⟩) l.length c6 c7 s i ++ [(8, .int .i64 (moreS h).1), (10, .int .i64 (j + 1 : Nat))]) 50 (Below w.heap.size w) a11 w10 := h11.sg hG10
          refine ⟨⟨j + 1, hlt2, ?_, h11⟩, by rw [e10, h11.slot (t := 10) (v := j + 1) (k := .i64) (by simp)]; omega⟩
          intro q hq2
          rw [List.take_add_one, hh', Option.toList_some, List.map_append, List.map_cons, List.map_nil] at hq2
          rcases List.mem_append.1 hq2 with hq2 | hq2
          · exact hnot q hq2
          · rw [List.mem_singleton.1 hq2]; exact hq
      · refine wpIn_cond (t := false) (by rw [eval_tmp, h9.g 34 rfl, decide_eq_false (by omega)]) (wpIn_exit ?_)
        obtain rfl : j = i := by omega
        have hbd := moreS_bd h
        show (regOf 13 C20).wpIn _ _ _ _ _ _
        refine rt13 n w8 (some ⟨g6, 0, none⟩) (some ⟨g7, 0, none⟩) l.length c6 c7 s j (moreS h).1 (by omega) (by omega) _ a9 (h9.sub (by simp)) ?_
        intro a10 h10
        show (regOf 4 C20).wpIn _ _ _ _ _ _
        refine rt4 n w8 (some ⟨g6, 0, none⟩) (some ⟨g7, 0, none⟩) l.length c6 c7 _ j hlt (by omega) _ a10 h10 ?_
        intro a11 h11
        have h11 : SG (st20 (some ⟨g6, 0, none⟩) (some ⟨g7, 0, none⟩) l.length c6 c7 (s + (moreS h).1) (j + 1)) 50 (Below w.heap.size w) a11 w8 := h11.sg hG8
        refine ⟨⟨j + 1, s + (moreS h).1, hlt, ?_, by omega, h11⟩, by rw [e7, h11.slot (t := 7) (v := j + 1) (k := .i64) (by simp)]; omega⟩
        have hin : h.sp ∉ (l.take j).map Hd.sp := fun hc => hnot _ hc rfl
        rw [htot, htk]
        conv => lhs; unfold totS
        rw [if_pos her, if_neg hin]
    · refine wpIn_cond (t := true) (by rw [eval_tmp, h7.g 30 rfl]; simp [her]) (wpIn_seq ?_)
      refine rt7 n w6 (moreS h).2 _ a7 (h7.sub (by simp)) ?_
      intro a8 h8
      have et : totS l [] 0 = (0, (moreS h).2) := by rw [htot]; unfold totS; rw [if_neg her]
      rw [et]
      exact wpIn_ret (ret20 h8 hG6)
  · refine wpIn_cond (t := false) (by rw [eval_tmp, h5.g 14 rfl, decide_eq_false (by omega)]) (wpIn_exit ?_)
    obtain rfl : i = l.length := by omega
    show (Code.seq (regOf 14 C20) .ret).wpIn _ _ _ _ _ _
    refine wpIn_seq (rt14 n w4 s _ a5 (h5.sub (by simp)) ?_)
    intro a6 h6
    have et : totS l [] 0 = (s, 0) := by rw [htot, List.drop_length]; rfl
    rw [et]
    exact wpIn_ret (ret20 h6 hG)
end Go.Proofs.Ytigblagodlfedaa
