/- Glow, by hand: part H4. -/
import Derived.RangeFuncNested
import Derived.RangeFuncBound
import Derived.RangeFuncCalls
import Derived.RangeFuncLeaves
import Derived.Shelf.Abstract
import Derived.Shelf.RegionOpen
import Derived.WalkKit
import Derived.OwnWalkIn
import Derived.TacticsInMore
import Derived.LoopNIn
import Derived.LoopIn
import Derived.Lib.Hide
import Derived.IntWalk
import Derived.Maps.AppendAt
import Derived.Test.YtmgiabehooghcaaKc
import Derived.Test.YtmgiabehooghcaaJ3
set_option linter.unusedVariables false
set_option linter.unusedSimpArgs false
set_option maxRecDepth 100000
set_option maxHeartbeats 4000000
namespace Go.Proofs.Ytmgiabehooghcaa
open Go.RowKit Go.Shelf
attribute [local go_sem] Oper.semAt_some

theorem l18 (n : Nat) (W : World) (B sB mB cB N g off cap i k v lm : Nat) (c0 : W.cell? ⟨cB, 0, none⟩ = some (.int .u8 k)) (c1 : W.cell? ⟨cB, 1, none⟩ = some (.int .u8 v)) (zc : cB < W.heap.size) (hlam : ∀ m W, CallsIn Fence.wide m Try.prog 18 #[.agg #[.int .u8 k, .int .u8 v]] W fun e w' => e = .returned (.int .u8 lm) ∧ Below W.heap.size W w') (vs : Nat → Value) (Ls : Nat → List Nat) (hls : Lists W mB vs Ls) (hm : lm < 16) (hlen : (Ls lm).length < 17592186044415)
    (Q : Exit → Act → World → Prop) (a : Act) (h0 : SR [(1, .pointer (some ⟨B, 0, none⟩)), (5, .pointer (some ⟨sB, 0, none⟩)), (6, .pointer (some ⟨mB, 0, none⟩)), (10, .int .i64 i), (11, .pointer (some ⟨cB, 0, none⟩)), (61, .slice (some ⟨g, off, none⟩) N cap), (62, .int .i64 N), (63, .int .i64 i)] 110 [] W a W)
    (hQ : ∀ a w1 V', App W (vs lm) (Ls lm).length (intsV (Ls lm)) (.int .i64 i) V' w1 → SR [(1, .pointer (some ⟨B, 0, none⟩)), (5, .pointer (some ⟨sB, 0, none⟩)), (6, .pointer (some ⟨mB, 0, none⟩)), (10, .int .i64 i), (11, .pointer (some ⟨cB, 0, none⟩)), (61, .slice (some ⟨g, off, none⟩) N cap), (62, .int .i64 N), (63, .int .i64 i)] 110 [] (w1.setCell ⟨mB, lm, none⟩ V') a (w1.setCell ⟨mB, lm, none⟩ V') → Q .normal a (w1.setCell ⟨mB, lm, none⟩ V')) :
    (regOf 18 C14).wpIn Fence.wide n Try.prog Q a W := by
  have hmix : Try.prog.follows .mixedOrders = true := by kernel_rfl
  obtain ⟨i0, hi, hz0, hz1, hz2⟩ := info_parts info3
  have hcell := hls.cell hm
  have hfrz := hls.frozen (lm)
  have hll := hls.lt
  have hnb : (vs lm).ownBlock ≠ some mB := fun e => hls.own_ne hm e rfl
  simp only [regOf, C14, Try.f14, Option.getD, Nat.reduceBEq, Bool.false_eq_true, if_true, if_false]
  refine region_inv (SomeVN fun V' tb => RI [(1, .pointer (some ⟨B, 0, none⟩)), (5, .pointer (some ⟨sB, 0, none⟩)), (6, .pointer (some ⟨mB, 0, none⟩)), (10, .int .i64 i), (11, .pointer (some ⟨cB, 0, none⟩)), (61, .slice (some ⟨g, off, none⟩) N cap), (62, .int .i64 N), (63, .int .i64 i)]
    [(0, 70, .agg #[.int .u8 k, .int .u8 v]), (1, 71, .int .u8 lm), (2, 72, .agg #[.int .u8 k, .int .u8 v]), (3, 73, .int .u8 lm), (4, 74, .pointer (some ⟨mB, lm, none⟩)), (5, 75, vs lm), (6, 76, .int .i64 i), (7, 77, .slice (some ⟨tb, 0, none⟩) 1 1), (8, 78, V'), (9, 79, .pointer (some ⟨mB, lm, none⟩))] 110 [] (fun Xs w => WA W (vs lm) (Ls lm).length (intsV (Ls lm)) (.int .i64 i) mB lm V' tb (Xs 7) (Xs 8) (Xs 10) w)) hmix (by kernel_rfl) ⟨undef, 0, h0.size, h0.defers, h0.kn, by simp, ⟨fun _ => (Below.refl _ _).drew, fun _ h => (by cases h), fun h => (by cases h), fun h => (by cases h)⟩⟩ ⟨?_, ?_, ?_, ?_, ?_, ?_, ?_, ?_, ?_, ?_, ?_, trivial⟩ ?_
  · intro Xs a w hX hdep hC hJ
    obtain ⟨V', tb, hI⟩ := hJ
    have e11 := hI.gi 11 rfl
    have x8 : Xs 8 = false := by
      cases h : Xs 8 with
      | false => rfl
      | true =>
        have y8 := h
        have y3 := hC 8 _ rfl y8 ⟨3, .chain⟩ (by simp) rfl
        have y1 := hC 3 _ rfl y3 ⟨1, .chain⟩ (by simp) rfl
        have y0 := hC 1 _ rfl y1 ⟨0, .data⟩ (by simp) rfl
        rw [hX] at y0; cases y0
    have x10 : Xs 10 = false := by
      cases h : Xs 10 with
      | false => rfl
      | true => have := hC 10 _ rfl h ⟨8, .data⟩ (by simp) rfl; rw [x8] at this; cases this
    have hb := hI.wp.pre x8
    have cc0 := (hb.cell (p := ⟨cB, 0, none⟩) zc).trans c0; have cc1 := (hb.cell (p := ⟨cB, 1, none⟩) zc).trans c1; go_simp
    exact ⟨V', tb, hI.put' (k := 0) (d := 70) (v := .agg #[.int .u8 k, .int .u8 v]) (by decide) (by simp) (by simp) (by simp) (by simpa [addX] using hI.wp)⟩
  · intro Xs a w hX hdep hC hJ
    obtain ⟨V', tb, hI⟩ := hJ
    have e70 := hI.gk 0 rfl (hdep ⟨0, .data⟩ (by simp) rfl)
    have x8 : Xs 8 = false := by
      cases h : Xs 8 with
      | false => rfl
      | true =>
        have y8 := h
        have y3 := hC 8 _ rfl y8 ⟨3, .chain⟩ (by simp) rfl
        have y1 := hC 3 _ rfl y3 ⟨1, .chain⟩ (by simp) rfl
        rw [hX] at y1; cases y1
    have x10 : Xs 10 = false := by
      cases h : Xs 10 with
      | false => rfl
      | true => have := hC 10 _ rfl h ⟨8, .data⟩ (by simp) rfl; rw [x8] at this; cases this
    have hb := hI.wp.pre x8
    go_simp
    refine ⟨trivial, fun h => (by cases h), (hlam (n - 1) w).mono ?_⟩
    rintro e w' ⟨rfl, hb2⟩
    refine ⟨V', tb, RI.putX hI (k := 1) (d := 71) (by decide) (by simp) (by simp) (by simp) (by simp) ?_⟩
    have hW := (x8 ▸ hI.wp).below x10 hb2
    have e8 : addX Xs 1 8 = false := by simp [addX, x8]
    have e7 : addX Xs 1 7 = Xs 7 := by simp [addX]
    have e10 : addX Xs 1 10 = Xs 10 := by simp [addX]
    show WA _ _ _ _ _ _ _ _ _ (addX Xs 1 7) (addX Xs 1 8) (addX Xs 1 10) _
    rw [e7, e8, e10]
    exact hW
  · intro Xs a w hX hdep hC hJ
    obtain ⟨V', tb, hI⟩ := hJ
    have e11 := hI.gi 11 rfl
    have x8 : Xs 8 = false := by
      cases h : Xs 8 with
      | false => rfl
      | true =>
        have y8 := h
        have y3 := hC 8 _ rfl y8 ⟨3, .chain⟩ (by simp) rfl
        have y2 := hC 3 _ rfl y3 ⟨2, .data⟩ (by simp) rfl
        rw [hX] at y2; cases y2
    have x10 : Xs 10 = false := by
      cases h : Xs 10 with
      | false => rfl
      | true => have := hC 10 _ rfl h ⟨8, .data⟩ (by simp) rfl; rw [x8] at this; cases this
    have hb := hI.wp.pre x8
    have cc0 := (hb.cell (p := ⟨cB, 0, none⟩) zc).trans c0; have cc1 := (hb.cell (p := ⟨cB, 1, none⟩) zc).trans c1; go_simp
    exact ⟨V', tb, hI.put' (k := 2) (d := 72) (v := .agg #[.int .u8 k, .int .u8 v]) (by decide) (by simp) (by simp) (by simp) (by simpa [addX] using hI.wp)⟩
  · intro Xs a w hX hdep hC hJ
    obtain ⟨V', tb, hI⟩ := hJ
    have e72 := hI.gk 2 rfl (hdep ⟨2, .data⟩ (by simp) rfl)
    have x8 : Xs 8 = false := by
      cases h : Xs 8 with
      | false => rfl
      | true =>
        have y8 := h
        have y3 := hC 8 _ rfl y8 ⟨3, .chain⟩ (by simp) rfl
        rw [hX] at y3; cases y3
    have x10 : Xs 10 = false := by
      cases h : Xs 10 with
      | false => rfl
      | true => have := hC 10 _ rfl h ⟨8, .data⟩ (by simp) rfl; rw [x8] at this; cases this
    have hb := hI.wp.pre x8
    go_simp
    refine ⟨trivial, fun h => (by cases h), (hlam (n - 1) w).mono ?_⟩
    rintro e w' ⟨rfl, hb2⟩
    refine ⟨V', tb, RI.putX hI (k := 3) (d := 73) (by decide) (by simp) (by simp) (by simp) (by simp) ?_⟩
    have hW := (x8 ▸ hI.wp).below x10 hb2
    have e8 : addX Xs 3 8 = false := by simp [addX, x8]
    have e7 : addX Xs 3 7 = Xs 7 := by simp [addX]
    have e10 : addX Xs 3 10 = Xs 10 := by simp [addX]
    show WA _ _ _ _ _ _ _ _ _ (addX Xs 3 7) (addX Xs 3 8) (addX Xs 3 10) _
    rw [e7, e8, e10]
    exact hW
  · intro Xs a w hX hdep hC hJ
    obtain ⟨V', tb, hI⟩ := hJ
    have e6 := hI.gi 6 rfl; have e73 := hI.gk 3 rfl (hdep ⟨3, .data⟩ (by simp) rfl)
    have x8 : Xs 8 = false := by
      cases h : Xs 8 with
      | false => rfl
      | true =>
        have y8 := h
        have y5 := hC 8 _ rfl y8 ⟨5, .data⟩ (by simp) rfl
        have y4 := hC 5 _ rfl y5 ⟨4, .data⟩ (by simp) rfl
        rw [hX] at y4; cases y4
    have x10 : Xs 10 = false := by
      cases h : Xs 10 with
      | false => rfl
      | true => have := hC 10 _ rfl h ⟨8, .data⟩ (by simp) rfl; rw [x8] at this; cases this
    have hb := hI.wp.pre x8
    have q1 : (0 : Int) ≤ lm := by omega
    have q2 : (lm : Int) < 16 := by omega
    go_simp
    exact ⟨V', tb, hI.put' (k := 4) (d := 74) (v := .pointer (some ⟨mB, lm, none⟩)) (by decide) (by simp) (by simp) (by simp) (by simpa [addX] using hI.wp)⟩
  · intro Xs a w hX hdep hC hJ
    obtain ⟨V', tb, hI⟩ := hJ
    have e74 := hI.gk 4 rfl (hdep ⟨4, .data⟩ (by simp) rfl)
    have x8 : Xs 8 = false := by
      cases h : Xs 8 with
      | false => rfl
      | true =>
        have y8 := h
        have y5 := hC 8 _ rfl y8 ⟨5, .data⟩ (by simp) rfl
        rw [hX] at y5; cases y5
    have x10 : Xs 10 = false := by
      cases h : Xs 10 with
      | false => rfl
      | true => have := hC 10 _ rfl h ⟨8, .data⟩ (by simp) rfl; rw [x8] at this; cases this
    have hb := hI.wp.pre x8
    have cc := (hb.cell (p := ⟨mB, lm, none⟩) hll).trans hcell
    go_simp
    exact ⟨V', tb, hI.put' (k := 5) (d := 75) (v := vs lm) (by decide) (by simp) (by simp) (by simp) (by simpa [addX] using hI.wp)⟩
  · intro Xs a w hX hdep hC hJ
    obtain ⟨V', tb, hI⟩ := hJ
    have e10 := hI.gi 10 rfl
    have x8 : Xs 8 = false := by
      cases h : Xs 8 with
      | false => rfl
      | true =>
        have y8 := h
        have y7 := hC 8 _ rfl y8 ⟨7, .data⟩ (by simp) rfl
        have y6 := hC 7 _ rfl y7 ⟨6, .data⟩ (by simp) rfl
        rw [hX] at y6; cases y6
    have x10 : Xs 10 = false := by
      cases h : Xs 10 with
      | false => rfl
      | true => have := hC 10 _ rfl h ⟨8, .data⟩ (by simp) rfl; rw [x8] at this; cases this
    have hb := hI.wp.pre x8
    go_simp
    exact ⟨V', tb, hI.put' (k := 6) (d := 76) (v := .int .i64 i) (by decide) (by simp) (by simp) (by simp) (by simpa [addX] using hI.wp)⟩
  · intro Xs a w hX hdep hC hJ
    obtain ⟨V', tb, hI⟩ := hJ
    have e76 := hI.gk 6 rfl (hdep ⟨6, .data⟩ (by simp) rfl)
    have x8 : Xs 8 = false := by
      cases h : Xs 8 with
      | false => rfl
      | true =>
        have y8 := h
        have y7 := hC 8 _ rfl y8 ⟨7, .data⟩ (by simp) rfl
        rw [hX] at y7; cases y7
    have x10 : Xs 10 = false := by
      cases h : Xs 10 with
      | false => rfl
      | true => have := hC 10 _ rfl h ⟨8, .data⟩ (by simp) rfl; rw [x8] at this; cases this
    have hb := hI.wp.pre x8
    go_simp
    have hW := (x8 ▸ hI.wp).build x10 V'
    refine ⟨V', w.heap.size, RI.putX hI (k := 7) (d := 77) (by decide) (by simp) (by simp) (by simp) (by simp) ?_⟩
    have e7 : addX Xs 7 7 = true := by simp
    have e8 : addX Xs 7 8 = false := by simp [addX, x8]
    have e10 : addX Xs 7 10 = Xs 10 := by simp [addX]
    show WA _ _ _ _ _ _ _ _ _ (addX Xs 7 7) (addX Xs 7 8) (addX Xs 7 10) _
    rw [e7, e8, e10]
    exact hW
  · intro Xs a w hX hdep hC hJ
    obtain ⟨V', tb, hI⟩ := hJ
    have x7 : Xs 7 = true := hdep ⟨7, .data⟩ (by simp) rfl
    have e75 := hI.gk 5 rfl (hdep ⟨5, .data⟩ (by simp) rfl); have e77 := hI.gk 7 rfl x7
    rw [if_pos (by simp [Region.wanted])]
    have hb := hI.wp.pre hX
    have htm := hI.wp.tmp hX x7
    refine operIn_append (.tmp 75) (.tmp 77) 40 rfl 0 3 i0 (.int .i64 0) 1 8 under40 hi hz0 hz1 hz2 rfl (by decide) (vs lm) (Ls lm).length (intsV (Ls lm)) (by simpa [go_sem] using e75) (ownsRow_same (hls.rows _ hm) fun g hg => hb.block g (hls.own_lt hm hg)) ⟨tb, 0, none⟩ 1 1 [.int .i64 i] (by simpa [go_sem] using e77) rfl (fun j u hj => by
        match j, hj with
        | 0, hj => simp at hj; subst hj; exact htm
        | j + 1, hj => simp at hj) (by simp [Value.oneCell']) (by unfold maxLen; omega) (by omega) (Nat.zero_le _) ?_
    intro V2 w1 h1 h2 h3
    have hA := App.of_grown hb h1 h2 h3
    have x10 : Xs 10 = false := by
      cases h : Xs 10 with
      | false => rfl
      | true => have := hC 10 _ rfl h ⟨8, .data⟩ (by simp) rfl; rw [hX] at this; cases this
    refine ⟨V2, tb, RI.putX hI (k := 8) (d := 78) (by decide) (by simp) (by simp) (by simp) (by simp) ?_⟩
    have e8 : addX Xs 8 8 = true := by simp
    have e10 : addX Xs 8 10 = false := by simp [addX, x10]
    show WA _ _ _ _ _ _ _ _ _ (addX Xs 8 7) (addX Xs 8 8) (addX Xs 8 10) _
    rw [e8, e10]
    exact ⟨fun h => (by cases h), fun h => (by cases h), fun _ _ => hA, fun h => (by cases h)⟩
  · intro Xs a w hX hdep hC hJ
    obtain ⟨V', tb, hI⟩ := hJ
    have e6 := hI.gi 6 rfl; have e71 := hI.gk 1 rfl (hdep ⟨1, .data⟩ (by simp) rfl)
    have q1 : (0 : Int) ≤ lm := by omega
    have q2 : (lm : Int) < 16 := by omega
    go_simp
    exact ⟨V', tb, hI.put' (k := 9) (d := 79) (v := .pointer (some ⟨mB, lm, none⟩)) (by decide) (by simp) (by simp) (by simp) (by simpa [addX] using hI.wp)⟩
  · intro Xs a w hX hdep hC hJ
    obtain ⟨V', tb, hI⟩ := hJ
    have x8 : Xs 8 = true := hdep ⟨8, .data⟩ (by simp) rfl
    have e79 := hI.gk 9 rfl (hdep ⟨9, .data⟩ (by simp) rfl); have e78 := hI.gk 8 rfl x8
    have k4 := hI.wp.post x8 hX
    obtain ⟨gg, cc, rfl⟩ := ownsRow_succ k4.own
    have k1 := (cell_of_heap (k4.heap _ hll hnb) (lm)).trans hcell
    have k2 := (frozen_of_heap (k4.heap _ hll hnb) (lm)).trans hfrz
    go_simp
    refine ⟨_, tb, hI.put_none' (k := 10) (by simp) ?_⟩
    have e10 : addX Xs 10 10 = true := by simp
    have e8 : addX Xs 10 8 = true := by simp [addX, x8]
    show WA _ _ _ _ _ _ _ _ _ (addX Xs 10 7) (addX Xs 10 8) (addX Xs 10 10) _
    rw [e8, e10]
    exact ⟨fun h => (by cases h), fun h => (by cases h), fun _ h => (by cases h), fun _ => ⟨w, k4, rfl⟩⟩
  · intro Xs a w hX hJ
    obtain ⟨V', tb, hI⟩ := hJ
    obtain ⟨w1, h1, rfl⟩ := hI.wp.fin (hX 10 (by simp))
    exact hQ a w1 V' h1 ⟨hI.size, hI.defers, fun p hp => hI.inp p (by simp only [List.mem_cons, List.not_mem_nil, or_false] at hp ⊢; rcases hp with h | h | h | h | h | h | h | h <;> simp [h]), rfl⟩
end Go.Proofs.Ytmgiabehooghcaa
namespace Go.Proofs.Ytmgiabehooghcaa
open Go.RowKit Go.Shelf
attribute [local go_sem] Oper.semAt_some

theorem cell2_new (W : World) (t : TypeId) (a b : Value) : (W.alloc (.cells #[a, b] t)).cell? ⟨W.heap.size, 0, none⟩ = some a ∧ (W.alloc (.cells #[a, b] t)).cell? ⟨W.heap.size, 1, none⟩ = some b ∧ (W.alloc (.cells #[a, b] t)).frozen? ⟨W.heap.size, 0, none⟩ = false ∧ (W.alloc (.cells #[a, b] t)).frozen? ⟨W.heap.size, 1, none⟩ = false := by
  have hn := World.alloc_heap_new W (.cells #[a, b] t)
  unfold World.cell? World.frozen?
  rw [hn]
  exact ⟨rfl, rfl, rfl, rfl⟩
theorem alloc_set2 (W : World) (t : TypeId) (a b c d : Value) : ((W.alloc (.cells #[a, b] t)).setCell ⟨W.heap.size, 0, none⟩ c).setCell ⟨W.heap.size, 1, none⟩ d = W.alloc (.cells #[c, d] t) := by
  have e : (((W.alloc (.cells #[a, b] t)).setCell ⟨W.heap.size, 0, none⟩ c).setCell ⟨W.heap.size, 1, none⟩ d).heap = (W.alloc (.cells #[c, d] t)).heap := by
    simp only [World.setCell, World.alloc]
    apply Array.ext
    · simp only [Array.size_modify, Array.size_push]
    · intro i h1 h2
      simp only [Array.getElem_modify, Array.getElem_push]
      simp only [Array.size_push] at h2
      split
      · subst_vars; simp
      · rw [dif_pos (by omega), dif_pos (by omega)]
  have e2 : ∀ A B : World, A.heap = B.heap → A.tape = B.tape → A.drawn = B.drawn → A.os = B.os → A.output = B.output → A = B := by
    intro A B; cases A; cases B; simp only; rintro rfl rfl rfl rfl rfl; rfl
  exact e2 _ _ e rfl rfl rfl rfl
theorem l1 (n : Nat) (W : World) (B : Nat) (X Y Z e : Int) (sv : Value) (cx : W.cell? ⟨B, 0, none⟩ = some (.int .i64 X)) (cy : W.cell? ⟨B, 1, none⟩ = some (.int .i64 Y)) (cz : W.cell? ⟨B, 2, none⟩ = some (.int .i64 Z)) (c3 : W.cell? ⟨B, 3, none⟩ = some sv) (zb : B < W.heap.size) (hchk : ∀ m W, CallsIn Fence.wide m Try.prog 24 #[.agg #[.int .i64 X, .int .i64 Y, .int .i64 Z, sv]] W fun en w' => en = .returned (.int .i64 e) ∧ Below W.heap.size W w') (Q : Exit → Act → World → Prop) (a : Act) (h0 : SR [(1, .pointer (some ⟨B, 0, none⟩))] 110 [] W a W)
    (hQ : ∀ a w, Below W.heap.size W w → SR [(1, .pointer (some ⟨B, 0, none⟩)), (4, .int .i64 e)] 110 [] w a w → Q .normal a w) : (regOf 1 C14).wpIn Fence.wide n Try.prog Q a W := by
  have hmix : Try.prog.follows .mixedOrders = true := by kernel_rfl
  simp only [regOf, C14, Try.f14, Option.getD, Nat.reduceBEq, Bool.false_eq_true, if_true, if_false]
  refine region_seq (RI [(1, .pointer (some ⟨B, 0, none⟩))]
    [(0, 16, .agg #[.int .i64 X, .int .i64 Y, .int .i64 Z, sv]), (1, 17, .int .i64 e), (2, 4, .int .i64 e)] 110 [] (fun _ w => Below W.heap.size W w)) (by kernel_rfl) ⟨h0.size, h0.defers, h0.kn, by simp, Below.refl _ _⟩ ⟨?_, ?_, ?_, trivial⟩ ?_
  · intro Xs a w hX hdep hC hI; have e1 := hI.gi 1 rfl; have cc0 := (hI.wp.cell (p := ⟨B, 0, none⟩) zb).trans cx; have cc1 := (hI.wp.cell (p := ⟨B, 1, none⟩) zb).trans cy; have cc2 := (hI.wp.cell (p := ⟨B, 2, none⟩) zb).trans cz; have cc3 := (hI.wp.cell (p := ⟨B, 3, none⟩) zb).trans c3; go_simp; exact hI.p 0 16 hI.wp (v := .agg #[.int .i64 X, .int .i64 Y, .int .i64 Z, sv])
  · intro Xs a w hX hdep hC hI; have e16 := hI.gk 0 rfl (hdep ⟨0, .data⟩ (by simp) rfl); go_simp
    refine ⟨trivial, fun h => (by cases h), (hchk (n - 1) w).mono ?_⟩
    rintro e w' ⟨rfl, hb2⟩
    exact hI.put' (k := 1) (d := 17) (v := .int .i64 e) (by decide) (by simp) (by simp) (by simp) (hI.wp.trans (hb2.mono hI.wp.size))
  · intro Xs a w hX hdep hC hI; have e17 := hI.gk 1 rfl (hdep ⟨1, .data⟩ (by simp) rfl); go_simp; exact hI.p 2 4 hI.wp (v := .int .i64 e)
  · intro Xs a w hX hI
    refine hQ a w hI.wp ⟨hI.size, hI.defers, ?_, rfl⟩
    simp only [List.mem_cons, List.not_mem_nil, or_false, forall_eq_or_imp, forall_eq]
    exact ⟨hI.inp (1, .pointer (some ⟨B, 0, none⟩)) (by simp), hI.kn (2, 4, .int .i64 e) (by simp) (hX 2 (by simp))⟩
theorem l10y (n : Nat) (W : World) (B sB mB ly c y i N g off cap k v : Nat) (b : Bool) (c3 : W.cell? ⟨B, 3, none⟩ = some (.slice (some ⟨g, off, none⟩) N cap)) (zb : B < W.heap.size) (hc0 : W.cell? ⟨g, off + i * 2, none⟩ = some (.int .u8 k)) (hc1 : W.cell? ⟨g, off + i * 2 + 1, none⟩ = some (.int .u8 v)) (zg : g < W.heap.size) (hi : i < N) (hw1 : IntKind.i64.wrap ((y : Int) * ly) = (y : Int) * ly) (hw2 : IntKind.i64.wrap ((y : Int) * ly + c) = (i : Int)) (hcl : ∀ m W, CallsIn Fence.wide m Try.prog 25 #[.agg #[.int .u8 k, .int .u8 v]] W fun e w' => e = .returned (.bool b) ∧ Below W.heap.size W w') (Q : Exit → Act → World → Prop) (a : Act) (h0 : SR [(1, .pointer (some ⟨B, 0, none⟩)), (5, .pointer (some ⟨sB, 0, none⟩)), (6, .pointer (some ⟨mB, 0, none⟩)), (7, .int .i64 ly), (26, .int .i64 ly), (27, .int .i64 c), (8, .int .i64 c), (9, .int .i64 (y : Nat))] 110 [] W a W)
    (hQ : ∀ a w, Below W.heap.size W w → SR [(1, .pointer (some ⟨B, 0, none⟩)), (5, .pointer (some ⟨sB, 0, none⟩)), (6, .pointer (some ⟨mB, 0, none⟩)), (7, .int .i64 ly), (26, .int .i64 ly), (27, .int .i64 c), (8, .int .i64 c), (9, .int .i64 (y : Nat)), (46, .bool b)] 110 [] w a w → Q .normal a w) : (regOf 10 C14).wpIn Fence.wide n Try.prog Q a W := by
  have hmix : Try.prog.follows .mixedOrders = true := by kernel_rfl
  simp only [regOf, C14, Try.f14, Option.getD, Nat.reduceBEq, Bool.false_eq_true, if_true, if_false]
  refine region_seq (RI [(1, .pointer (some ⟨B, 0, none⟩)), (5, .pointer (some ⟨sB, 0, none⟩)), (6, .pointer (some ⟨mB, 0, none⟩)), (7, .int .i64 ly), (26, .int .i64 ly), (27, .int .i64 c), (8, .int .i64 c), (9, .int .i64 (y : Nat))]
    [(0, 33, .int .i64 (y : Nat)), (1, 34, .bool true), (2, 35, .bool true), (3, 36, .pointer (some ⟨B, 3, none⟩)), (4, 37, .slice (some ⟨g, off, none⟩) N cap), (5, 38, .int .i64 (y : Nat)), (6, 39, .int .i64 ly), (7, 40, .int .i64 ((y : Int) * ly)), (8, 41, .int .i64 c), (9, 42, .int .i64 i), (10, 43, .pointer (some ⟨g, off + i * 2, none⟩)), (11, 44, .agg #[.int .u8 k, .int .u8 v]), (12, 45, .bool b), (13, 46, .bool b)] 110 [] (fun _ w => Below W.heap.size W w)) (by kernel_rfl) ⟨h0.size, h0.defers, h0.kn, by simp, Below.refl _ _⟩ ⟨?_, ?_, ?_, ?_, ?_, ?_, ?_, ?_, ?_, ?_, ?_, ?_, ?_, ?_, trivial⟩ ?_
  · intro Xs a w hX hdep hC hI; have e9 := hI.gi 9 rfl; go_simp; exact hI.p 0 33 hI.wp (v := .int .i64 (y : Nat))
  · intro Xs a w hX hdep hC hI; have e33 := hI.gk 0 rfl (hdep ⟨0, .data⟩ (by simp) rfl)
    have q0 : (0 : Int) ≤ y := by omega
    go_simp; exact hI.p 1 34 hI.wp (v := .bool true)
  · intro Xs a w hX hdep hC hI; have e34 := hI.gk 1 rfl (hdep ⟨1, .data⟩ (by simp) rfl); go_simp; exact hI.p 2 35 hI.wp (v := .bool true)
  · intro Xs a w hX hdep hC hI; have e1 := hI.gi 1 rfl; have e35 := hI.gk 2 rfl (hdep ⟨2, .guard⟩ (by simp) rfl); have f35 := slot_bool e35; go_simp; exact hI.p 3 36 hI.wp (v := .pointer (some ⟨B, 3, none⟩))
  · intro Xs a w hX hdep hC hI; have e36 := hI.gk 3 rfl (hdep ⟨3, .data⟩ (by simp) rfl); have e35 := hI.gk 2 rfl (hdep ⟨2, .guard⟩ (by simp) rfl); have f35 := slot_bool e35; have cc3 := (hI.wp.cell (p := ⟨B, 3, none⟩) zb).trans c3; go_simp; exact hI.p 4 37 hI.wp (v := .slice (some ⟨g, off, none⟩) N cap)
  · intro Xs a w hX hdep hC hI; have e9 := hI.gi 9 rfl; have e35 := hI.gk 2 rfl (hdep ⟨2, .guard⟩ (by simp) rfl); have f35 := slot_bool e35; go_simp; exact hI.p 5 38 hI.wp (v := .int .i64 (y : Nat))
  · intro Xs a w hX hdep hC hI; have e7 := hI.gi 7 rfl; have e35 := hI.gk 2 rfl (hdep ⟨2, .guard⟩ (by simp) rfl); have f35 := slot_bool e35; go_simp; exact hI.p 6 39 hI.wp (v := .int .i64 ly)
  · intro Xs a w hX hdep hC hI; have e38 := hI.gk 5 rfl (hdep ⟨5, .data⟩ (by simp) rfl); have e39 := hI.gk 6 rfl (hdep ⟨6, .data⟩ (by simp) rfl); have e35 := hI.gk 2 rfl (hdep ⟨2, .guard⟩ (by simp) rfl); have f35 := slot_bool e35; go_simp; exact hI.p 7 40 hI.wp (v := .int .i64 ((y : Int) * ly))
  · intro Xs a w hX hdep hC hI; have e8 := hI.gi 8 rfl; have e35 := hI.gk 2 rfl (hdep ⟨2, .guard⟩ (by simp) rfl); have f35 := slot_bool e35; go_simp; exact hI.p 8 41 hI.wp (v := .int .i64 c)
  · intro Xs a w hX hdep hC hI; have e40 := hI.gk 7 rfl (hdep ⟨7, .data⟩ (by simp) rfl); have e41 := hI.gk 8 rfl (hdep ⟨8, .data⟩ (by simp) rfl); have e35 := hI.gk 2 rfl (hdep ⟨2, .guard⟩ (by simp) rfl); have f35 := slot_bool e35; go_simp; exact hI.p 9 42 hI.wp (v := .int .i64 i)
  · intro Xs a w hX hdep hC hI; have e37 := hI.gk 4 rfl (hdep ⟨4, .data⟩ (by simp) rfl); have e42 := hI.gk 9 rfl (hdep ⟨9, .data⟩ (by simp) rfl); have e35 := hI.gk 2 rfl (hdep ⟨2, .guard⟩ (by simp) rfl); have f35 := slot_bool e35
    have q1 : (0 : Int) ≤ i := by omega
    have q2 : (i : Int) < N := by omega
    go_simp; exact hI.p 10 43 hI.wp (v := .pointer (some ⟨g, off + i * 2, none⟩))
  · intro Xs a w hX hdep hC hI; have e43 := hI.gk 10 rfl (hdep ⟨10, .data⟩ (by simp) rfl); have e35 := hI.gk 2 rfl (hdep ⟨2, .guard⟩ (by simp) rfl); have f35 := slot_bool e35; have cc0 := (hI.wp.cell (p := ⟨g, off + i * 2, none⟩) zg).trans hc0; have cc1 := (hI.wp.cell (p := ⟨g, off + i * 2 + 1, none⟩) zg).trans hc1; go_simp; exact hI.p 11 44 hI.wp (v := .agg #[.int .u8 k, .int .u8 v])
  · intro Xs a w hX hdep hC hI; have e44 := hI.gk 11 rfl (hdep ⟨11, .data⟩ (by simp) rfl); have e35 := hI.gk 2 rfl (hdep ⟨2, .chain⟩ (by simp) rfl); have f35 := slot_bool e35; go_simp
    refine ⟨trivial, fun h => (by cases h), (hcl (n - 1) w).mono ?_⟩
    rintro e w' ⟨rfl, hb2⟩
    exact hI.put' (k := 12) (d := 45) (v := .bool b) (by decide) (by simp) (by simp) (by simp) (hI.wp.trans (hb2.mono hI.wp.size))
  · intro Xs a w hX hdep hC hI; have e35 := hI.gk 2 rfl (hdep ⟨2, .data⟩ (by simp) rfl); have e45 := hI.gk 12 rfl (hdep ⟨12, .data⟩ (by simp) rfl); go_simp; exact hI.p 13 46 hI.wp (v := .bool b)
  · intro Xs a w hX hI
    refine hQ a w hI.wp ⟨hI.size, hI.defers, ?_, rfl⟩
    simp only [List.mem_cons, List.not_mem_nil, or_false, forall_eq_or_imp, forall_eq]
    exact ⟨hI.inp (1, .pointer (some ⟨B, 0, none⟩)) (by simp), hI.inp (5, .pointer (some ⟨sB, 0, none⟩)) (by simp), hI.inp (6, .pointer (some ⟨mB, 0, none⟩)) (by simp), hI.inp (7, .int .i64 ly) (by simp), hI.inp (26, .int .i64 ly) (by simp), hI.inp (27, .int .i64 c) (by simp), hI.inp (8, .int .i64 c) (by simp), hI.inp (9, .int .i64 (y : Nat)) (by simp), hI.kn (13, 46, .bool b) (by simp) (hX 13 (by simp))⟩
theorem l10n (n : Nat) (W : World) (B sB mB ly c : Nat) (Q : Exit → Act → World → Prop) (a : Act) (h0 : SR [(1, .pointer (some ⟨B, 0, none⟩)), (5, .pointer (some ⟨sB, 0, none⟩)), (6, .pointer (some ⟨mB, 0, none⟩)), (7, .int .i64 ly), (26, .int .i64 ly), (27, .int .i64 c), (8, .int .i64 c), (9, .int .i64 (-1))] 110 [] W a W)
    (hQ : ∀ a w, Below W.heap.size W w → SR [(1, .pointer (some ⟨B, 0, none⟩)), (5, .pointer (some ⟨sB, 0, none⟩)), (6, .pointer (some ⟨mB, 0, none⟩)), (7, .int .i64 ly), (26, .int .i64 ly), (27, .int .i64 c), (8, .int .i64 c), (9, .int .i64 (-1)), (46, .bool false)] 110 [] w a w → Q .normal a w) : (regOf 10 C14).wpIn Fence.wide n Try.prog Q a W := by
  have hmix : Try.prog.follows .mixedOrders = true := by kernel_rfl
  simp only [regOf, C14, Try.f14, Option.getD, Nat.reduceBEq, Bool.false_eq_true, if_true, if_false]
  refine region_seq (RI [(1, .pointer (some ⟨B, 0, none⟩)), (5, .pointer (some ⟨sB, 0, none⟩)), (6, .pointer (some ⟨mB, 0, none⟩)), (7, .int .i64 ly), (26, .int .i64 ly), (27, .int .i64 c), (8, .int .i64 c), (9, .int .i64 (-1))]
    [(0, 33, .int .i64 (-1)), (1, 34, .bool false), (2, 35, .bool false), (13, 46, .bool false)] 110 [] (fun _ w => Below W.heap.size W w)) (by kernel_rfl) ⟨h0.size, h0.defers, h0.kn, by simp, Below.refl _ _⟩ ⟨?_, ?_, ?_, ?_, ?_, ?_, ?_, ?_, ?_, ?_, ?_, ?_, ?_, ?_, trivial⟩ ?_
  · intro Xs a w hX hdep hC hI; have e9 := hI.gi 9 rfl; go_simp; exact hI.p 0 33 hI.wp (v := .int .i64 (-1))
  · intro Xs a w hX hdep hC hI; have e33 := hI.gk 0 rfl (hdep ⟨0, .data⟩ (by simp) rfl); go_simp; exact hI.p 1 34 hI.wp (v := .bool false)
  · intro Xs a w hX hdep hC hI; have e34 := hI.gk 1 rfl (hdep ⟨1, .data⟩ (by simp) rfl); go_simp; exact hI.p 2 35 hI.wp (v := .bool false)
  · intro Xs a w hX hdep hC hI; have e1 := hI.gi 1 rfl; have e35 := hI.gk 2 rfl (hdep ⟨2, .guard⟩ (by simp) rfl); have f35 := slot_bool e35; go_simp; exact hI.p 3 36 hI.wp
  · intro Xs a w hX hdep hC hI; have e35 := hI.gk 2 rfl (hdep ⟨2, .guard⟩ (by simp) rfl); have f35 := slot_bool e35; go_simp; exact hI.p 4 37 hI.wp
  · intro Xs a w hX hdep hC hI; have e9 := hI.gi 9 rfl; have e35 := hI.gk 2 rfl (hdep ⟨2, .guard⟩ (by simp) rfl); have f35 := slot_bool e35; go_simp; exact hI.p 5 38 hI.wp
  · intro Xs a w hX hdep hC hI; have e7 := hI.gi 7 rfl; have e35 := hI.gk 2 rfl (hdep ⟨2, .guard⟩ (by simp) rfl); have f35 := slot_bool e35; go_simp; exact hI.p 6 39 hI.wp
  · intro Xs a w hX hdep hC hI; have e35 := hI.gk 2 rfl (hdep ⟨2, .guard⟩ (by simp) rfl); have f35 := slot_bool e35; go_simp; exact hI.p 7 40 hI.wp
  · intro Xs a w hX hdep hC hI; have e8 := hI.gi 8 rfl; have e35 := hI.gk 2 rfl (hdep ⟨2, .guard⟩ (by simp) rfl); have f35 := slot_bool e35; go_simp; exact hI.p 8 41 hI.wp
  · intro Xs a w hX hdep hC hI; have e35 := hI.gk 2 rfl (hdep ⟨2, .guard⟩ (by simp) rfl); have f35 := slot_bool e35; go_simp; exact hI.p 9 42 hI.wp
  · intro Xs a w hX hdep hC hI; have e35 := hI.gk 2 rfl (hdep ⟨2, .guard⟩ (by simp) rfl); have f35 := slot_bool e35; go_simp; exact hI.p 10 43 hI.wp
  · intro Xs a w hX hdep hC hI; have e35 := hI.gk 2 rfl (hdep ⟨2, .guard⟩ (by simp) rfl); have f35 := slot_bool e35; go_simp; exact hI.p 11 44 hI.wp
  · intro Xs a w hX hdep hC hI; have e35 := hI.gk 2 rfl (hdep ⟨2, .chain⟩ (by simp) rfl); have f35 := slot_bool e35; go_simp
    refine ⟨trivial, ?_⟩
    exact hI.p 12 45 hI.wp
  · intro Xs a w hX hdep hC hI; have e35 := hI.gk 2 rfl (hdep ⟨2, .data⟩ (by simp) rfl); go_simp; exact hI.p 13 46 hI.wp (v := .bool false)
  · intro Xs a w hX hI
    refine hQ a w hI.wp ⟨hI.size, hI.defers, ?_, rfl⟩
    simp only [List.mem_cons, List.not_mem_nil, or_false, forall_eq_or_imp, forall_eq]
    exact ⟨hI.inp (1, .pointer (some ⟨B, 0, none⟩)) (by simp), hI.inp (5, .pointer (some ⟨sB, 0, none⟩)) (by simp), hI.inp (6, .pointer (some ⟨mB, 0, none⟩)) (by simp), hI.inp (7, .int .i64 ly) (by simp), hI.inp (26, .int .i64 ly) (by simp), hI.inp (27, .int .i64 c) (by simp), hI.inp (8, .int .i64 c) (by simp), hI.inp (9, .int .i64 (-1)) (by simp), hI.kn (13, 46, .bool false) (by simp) (hX 13 (by simp))⟩
theorem l16 (n : Nat) (W : World) (B sB mB N g off cap i k v : Nat) (hi : i < N) (hc0 : W.cell? ⟨g, off + i * 2, none⟩ = some (.int .u8 k)) (hc1 : W.cell? ⟨g, off + i * 2 + 1, none⟩ = some (.int .u8 v)) (Q : Exit → Act → World → Prop) (a : Act) (h0 : SR [(1, .pointer (some ⟨B, 0, none⟩)), (5, .pointer (some ⟨sB, 0, none⟩)), (6, .pointer (some ⟨mB, 0, none⟩)), (61, .slice (some ⟨g, off, none⟩) N cap), (62, .int .i64 N), (63, .int .i64 i)] 110 [] W a W)
    (hQ : ∀ a, SR [(1, .pointer (some ⟨B, 0, none⟩)), (5, .pointer (some ⟨sB, 0, none⟩)), (6, .pointer (some ⟨mB, 0, none⟩)), (61, .slice (some ⟨g, off, none⟩) N cap), (62, .int .i64 N), (63, .int .i64 i), (10, .int .i64 i), (11, .pointer (some ⟨W.heap.size, 0, none⟩))] 110 [] (W.alloc (.cells #[.int .u8 k, .int .u8 v] 32)) a (W.alloc (.cells #[.int .u8 k, .int .u8 v] 32)) → Q .normal a (W.alloc (.cells #[.int .u8 k, .int .u8 v] 32))) : (regOf 16 C14).wpIn Fence.wide n Try.prog Q a W := by
  simp only [regOf, C14, Try.f14, Option.getD, Nat.reduceBEq, Bool.false_eq_true, if_true, if_false]
  refine region_sq (fun k_ a w => match k_ with | 0 => SR [(1, .pointer (some ⟨B, 0, none⟩)), (5, .pointer (some ⟨sB, 0, none⟩)), (6, .pointer (some ⟨mB, 0, none⟩)), (61, .slice (some ⟨g, off, none⟩) N cap), (62, .int .i64 N), (63, .int .i64 i)] 110 [] W a w | 1 => SR [(1, .pointer (some ⟨B, 0, none⟩)), (5, .pointer (some ⟨sB, 0, none⟩)), (6, .pointer (some ⟨mB, 0, none⟩)), (61, .slice (some ⟨g, off, none⟩) N cap), (62, .int .i64 N), (63, .int .i64 i), (65, .int .i64 i)] 110 [] W a w | 2 => SR [(1, .pointer (some ⟨B, 0, none⟩)), (5, .pointer (some ⟨sB, 0, none⟩)), (6, .pointer (some ⟨mB, 0, none⟩)), (61, .slice (some ⟨g, off, none⟩) N cap), (62, .int .i64 N), (63, .int .i64 i), (65, .int .i64 i), (66, .pointer (some ⟨g, off + i * 2, none⟩))] 110 [] W a w | 3 => SR [(1, .pointer (some ⟨B, 0, none⟩)), (5, .pointer (some ⟨sB, 0, none⟩)), (6, .pointer (some ⟨mB, 0, none⟩)), (61, .slice (some ⟨g, off, none⟩) N cap), (62, .int .i64 N), (63, .int .i64 i), (65, .int .i64 i), (67, .agg #[.int .u8 k, .int .u8 v])] 110 [] W a w | 4 => SR [(1, .pointer (some ⟨B, 0, none⟩)), (5, .pointer (some ⟨sB, 0, none⟩)), (6, .pointer (some ⟨mB, 0, none⟩)), (61, .slice (some ⟨g, off, none⟩) N cap), (62, .int .i64 N), (63, .int .i64 i), (65, .int .i64 i), (67, .agg #[.int .u8 k, .int .u8 v]), (11, .pointer (some ⟨W.heap.size, 0, none⟩))] 110 [] (W.alloc (.cells #[.int .u8 0, .int .u8 0] 32)) a w | 5 => SR [(1, .pointer (some ⟨B, 0, none⟩)), (5, .pointer (some ⟨sB, 0, none⟩)), (6, .pointer (some ⟨mB, 0, none⟩)), (61, .slice (some ⟨g, off, none⟩) N cap), (62, .int .i64 N), (63, .int .i64 i), (10, .int .i64 i), (67, .agg #[.int .u8 k, .int .u8 v]), (11, .pointer (some ⟨W.heap.size, 0, none⟩))] 110 [] (W.alloc (.cells #[.int .u8 0, .int .u8 0] 32)) a w | _ => SR [(1, .pointer (some ⟨B, 0, none⟩)), (5, .pointer (some ⟨sB, 0, none⟩)), (6, .pointer (some ⟨mB, 0, none⟩)), (61, .slice (some ⟨g, off, none⟩) N cap), (62, .int .i64 N), (63, .int .i64 i), (10, .int .i64 i), (67, .agg #[.int .u8 k, .int .u8 v]), (11, .pointer (some ⟨W.heap.size, 0, none⟩))] 110 [] (W.alloc (.cells #[.int .u8 k, .int .u8 v] 32)) a w) h0 ⟨?_, ?_, ?_, ?_, ?_, ?_, trivial⟩ ?_
  · intro a w (hI : SR _ _ _ _ a w); have e63 := hI.g 63 rfl; obtain rfl := hI.wp; go_simp; exact hI.s 65
  · intro a w (hI : SR _ _ _ _ a w); have e61 := hI.g 61 rfl; have e63 := hI.g 63 rfl; obtain rfl := hI.wp
    have q1 : (0 : Int) ≤ i := by omega
    have q2 : (i : Int) < N := by omega
    go_simp; exact hI.s 66
  · intro a w (hI : SR _ _ _ _ a w); have e66 := hI.g 66 rfl; obtain rfl := hI.wp; go_simp; exact hI.s 67
  · intro a w (hI : SR _ _ _ _ a w); obtain rfl := hI.wp; go_simp; exact hI.s 11
  · intro a w (hI : SR _ _ _ _ a w); have e65 := hI.g 65 rfl
    obtain rfl : w = W.alloc (.cells #[.int .u8 0, .int .u8 0] 32) := hI.wp
    go_simp; exact hI.s 10
  · intro a w (hI : SR _ _ _ _ a w); have e11 := hI.g 11 rfl; have e67 := hI.g 67 rfl
    obtain rfl : w = W.alloc (.cells #[.int .u8 0, .int .u8 0] 32) := hI.wp
    have hn0 := cell2_new W 32 (.int .u8 0) (.int .u8 0)
    obtain ⟨hn1, hn2, hn3, hn5⟩ := hn0
    have hn4 := alloc_set2 W 32 (.int .u8 0) (.int .u8 0) (.int .u8 k) (.int .u8 v)
    go_simp
    exact hI.none
  · intro a w (hI : SR _ _ _ _ a w)
    obtain rfl : w = W.alloc (.cells #[.int .u8 k, .int .u8 v] 32) := hI.wp
    exact hQ a (hI.sub (by intro p hp; simp only [List.mem_cons, List.not_mem_nil, or_false] at hp ⊢; rcases hp with h | h | h | h | h | h | h | h <;> simp [h]))
theorem l17 (n : Nat) (W : World) (B sB mB cB N g off cap i k v : Nat) (b : Bool) (c0 : W.cell? ⟨cB, 0, none⟩ = some (.int .u8 k)) (c1 : W.cell? ⟨cB, 1, none⟩ = some (.int .u8 v)) (zc : cB < W.heap.size) (hcl : ∀ m W, CallsIn Fence.wide m Try.prog 25 #[.agg #[.int .u8 k, .int .u8 v]] W fun e w' => e = .returned (.bool b) ∧ Below W.heap.size W w') (Q : Exit → Act → World → Prop) (a : Act) (h0 : SR [(1, .pointer (some ⟨B, 0, none⟩)), (5, .pointer (some ⟨sB, 0, none⟩)), (6, .pointer (some ⟨mB, 0, none⟩)), (61, .slice (some ⟨g, off, none⟩) N cap), (62, .int .i64 N), (63, .int .i64 i), (10, .int .i64 i), (11, .pointer (some ⟨cB, 0, none⟩))] 110 [] W a W)
    (hQ : ∀ a w, Below W.heap.size W w → SR [(1, .pointer (some ⟨B, 0, none⟩)), (5, .pointer (some ⟨sB, 0, none⟩)), (6, .pointer (some ⟨mB, 0, none⟩)), (61, .slice (some ⟨g, off, none⟩) N cap), (62, .int .i64 N), (63, .int .i64 i), (10, .int .i64 i), (11, .pointer (some ⟨cB, 0, none⟩)), (69, .bool b)] 110 [] w a w → Q .normal a w) : (regOf 17 C14).wpIn Fence.wide n Try.prog Q a W := by
  have hmix : Try.prog.follows .mixedOrders = true := by kernel_rfl
  simp only [regOf, C14, Try.f14, Option.getD, Nat.reduceBEq, Bool.false_eq_true, if_true, if_false]
  refine region_seq (RI [(1, .pointer (some ⟨B, 0, none⟩)), (5, .pointer (some ⟨sB, 0, none⟩)), (6, .pointer (some ⟨mB, 0, none⟩)), (61, .slice (some ⟨g, off, none⟩) N cap), (62, .int .i64 N), (63, .int .i64 i), (10, .int .i64 i), (11, .pointer (some ⟨cB, 0, none⟩))]
    [(0, 68, .agg #[.int .u8 k, .int .u8 v]), (1, 69, .bool b)] 110 [] (fun _ w => Below W.heap.size W w)) (by kernel_rfl) ⟨h0.size, h0.defers, h0.kn, by simp, Below.refl _ _⟩ ⟨?_, ?_, trivial⟩ ?_
  · intro Xs a w hX hdep hC hI; have e11 := hI.gi 11 rfl; have cc0 := (hI.wp.cell (p := ⟨cB, 0, none⟩) zc).trans c0; have cc1 := (hI.wp.cell (p := ⟨cB, 1, none⟩) zc).trans c1; go_simp; exact hI.p 0 68 hI.wp (v := .agg #[.int .u8 k, .int .u8 v])
  · intro Xs a w hX hdep hC hI; have e68 := hI.gk 0 rfl (hdep ⟨0, .data⟩ (by simp) rfl); go_simp
    refine ⟨trivial, fun h => (by cases h), (hcl (n - 1) w).mono ?_⟩
    rintro e w' ⟨rfl, hb2⟩
    exact hI.put' (k := 1) (d := 69) (v := .bool b) (by decide) (by simp) (by simp) (by simp) (hI.wp.trans (hb2.mono hI.wp.size))
  · intro Xs a w hX hI
    refine hQ a w hI.wp ⟨hI.size, hI.defers, ?_, rfl⟩
    simp only [List.mem_cons, List.not_mem_nil, or_false, forall_eq_or_imp, forall_eq]
    exact ⟨hI.inp (1, .pointer (some ⟨B, 0, none⟩)) (by simp), hI.inp (5, .pointer (some ⟨sB, 0, none⟩)) (by simp), hI.inp (6, .pointer (some ⟨mB, 0, none⟩)) (by simp), hI.inp (61, .slice (some ⟨g, off, none⟩) N cap) (by simp), hI.inp (62, .int .i64 N) (by simp), hI.inp (63, .int .i64 i) (by simp), hI.inp (10, .int .i64 i) (by simp), hI.inp (11, .pointer (some ⟨cB, 0, none⟩)) (by simp), hI.kn (1, 69, .bool b) (by simp) (hX 1 (by simp))⟩
end Go.Proofs.Ytmgiabehooghcaa
namespace Go.Proofs.Ytmgiabehooghcaa
open Go.RowKit Go.Shelf
attribute [local go_sem] Oper.semAt_some

theorem l25 (n : Nat) (W : World) (r1 r2 r3 N i av lv : Nat) (x y : Value) (hi : i < N) (ca : W.cell? ⟨r1, i, none⟩ = some (.int .u8 av)) (cl : W.cell? ⟨r2, i, none⟩ = some (.int .u8 lv)) (c0 : W.cell? ⟨r3, i * 2, none⟩ = some x) (c1 : W.cell? ⟨r3, i * 2 + 1, none⟩ = some y) (f0 : W.frozen? ⟨r3, i * 2, none⟩ = false) (f1 : W.frozen? ⟨r3, i * 2 + 1, none⟩ = false)
    (Q : Exit → Act → World → Prop) (a : Act) (h0 : SR [(12, .slice (some ⟨r1, 0, none⟩) N N), (13, .slice (some ⟨r2, 0, none⟩) N N), (14, .slice (some ⟨r3, 0, none⟩) N N), (92, .int .i64 N), (93, .int .i64 i), (15, .int .i64 i)] 110 [] W a W)
    (hQ : ∀ a, SR [(12, .slice (some ⟨r1, 0, none⟩) N N), (13, .slice (some ⟨r2, 0, none⟩) N N), (14, .slice (some ⟨r3, 0, none⟩) N N), (92, .int .i64 N), (93, .int .i64 i), (15, .int .i64 i)] 110 [] ((W.drew.setCell ⟨r3, i * 2, none⟩ (.int .u8 av)).setCell ⟨r3, i * 2 + 1, none⟩ (.int .u8 lv)) a ((W.drew.setCell ⟨r3, i * 2, none⟩ (.int .u8 av)).setCell ⟨r3, i * 2 + 1, none⟩ (.int .u8 lv)) → Q .normal a ((W.drew.setCell ⟨r3, i * 2, none⟩ (.int .u8 av)).setCell ⟨r3, i * 2 + 1, none⟩ (.int .u8 lv))) : (regOf 25 C14).wpIn Fence.wide n Try.prog Q a W := by
  have hmix : Try.prog.follows .mixedOrders = true := by kernel_rfl
  simp only [regOf, C14, Try.f14, Option.getD, Nat.reduceBEq, Bool.false_eq_true, if_true, if_false]
  refine region_inv (RI [(12, .slice (some ⟨r1, 0, none⟩) N N), (13, .slice (some ⟨r2, 0, none⟩) N N), (14, .slice (some ⟨r3, 0, none⟩) N N), (92, .int .i64 N), (93, .int .i64 i), (15, .int .i64 i)]
    [(0, 96, .slice (some ⟨r3, 0, none⟩) N N), (1, 97, .int .i64 i), (2, 98, .slice (some ⟨r1, 0, none⟩) N N), (3, 99, .int .i64 i), (4, 100, .pointer (some ⟨r1, i, none⟩)), (5, 101, .int .u8 av), (6, 102, .slice (some ⟨r2, 0, none⟩) N N), (7, 103, .int .i64 i), (8, 104, .pointer (some ⟨r2, i, none⟩)), (9, 105, .int .u8 lv), (10, 106, .agg #[.int .u8 av, .int .u8 lv]), (11, 107, .pointer (some ⟨r3, i * 2, none⟩))] 110 [] (fun Xs w => (Xs 12 = false → w = W.drew) ∧ (Xs 12 = true → w = (W.drew.setCell ⟨r3, i * 2, none⟩ (.int .u8 av)).setCell ⟨r3, i * 2 + 1, none⟩ (.int .u8 lv)))) hmix (by kernel_rfl) ⟨h0.size, h0.defers, h0.kn, by simp, fun _ => rfl, fun h => (by cases h)⟩ ⟨?_, ?_, ?_, ?_, ?_, ?_, ?_, ?_, ?_, ?_, ?_, ?_, ?_, trivial⟩ ?_
  · intro Xs a w hX hdep hC hI; have e14 := hI.gi 14 rfl
    have x12 : Xs 12 = false := by
      cases h : Xs 12 with
      | false => rfl
      | true =>
        have y12 := h
        have y0 := hC 12 _ rfl y12 ⟨0, .phase⟩ (by simp) rfl
        rw [hX] at y0; cases y0
    have hw : w = W.drew := hI.wp.1 x12
    subst hw
    go_simp
    exact hI.put' (k := 0) (d := 96) (v := .slice (some ⟨r3, 0, none⟩) N N) (by decide) (by simp) (by simp) (by simp) (by simpa [addX] using hI.wp)
  · intro Xs a w hX hdep hC hI; have e15 := hI.gi 15 rfl
    have x12 : Xs 12 = false := by
      cases h : Xs 12 with
      | false => rfl
      | true =>
        have y12 := h
        have y1 := hC 12 _ rfl y12 ⟨1, .phase⟩ (by simp) rfl
        rw [hX] at y1; cases y1
    have hw : w = W.drew := hI.wp.1 x12
    subst hw
    go_simp
    exact hI.put' (k := 1) (d := 97) (v := .int .i64 i) (by decide) (by simp) (by simp) (by simp) (by simpa [addX] using hI.wp)
  · intro Xs a w hX hdep hC hI; have e12 := hI.gi 12 rfl
    have x12 : Xs 12 = false := by
      cases h : Xs 12 with
      | false => rfl
      | true =>
        have y12 := h
        have y2 := hC 12 _ rfl y12 ⟨2, .phase⟩ (by simp) rfl
        rw [hX] at y2; cases y2
    have hw : w = W.drew := hI.wp.1 x12
    subst hw
    go_simp
    exact hI.put' (k := 2) (d := 98) (v := .slice (some ⟨r1, 0, none⟩) N N) (by decide) (by simp) (by simp) (by simp) (by simpa [addX] using hI.wp)
  · intro Xs a w hX hdep hC hI; have e15 := hI.gi 15 rfl
    have x12 : Xs 12 = false := by
      cases h : Xs 12 with
      | false => rfl
      | true =>
        have y12 := h
        have y3 := hC 12 _ rfl y12 ⟨3, .phase⟩ (by simp) rfl
        rw [hX] at y3; cases y3
    have hw : w = W.drew := hI.wp.1 x12
    subst hw
    go_simp
    exact hI.put' (k := 3) (d := 99) (v := .int .i64 i) (by decide) (by simp) (by simp) (by simp) (by simpa [addX] using hI.wp)
  · intro Xs a w hX hdep hC hI; have e98 := hI.gk 2 rfl (hdep ⟨2, .data⟩ (by simp) rfl); have e99 := hI.gk 3 rfl (hdep ⟨3, .data⟩ (by simp) rfl)
    have x12 : Xs 12 = false := by
      cases h : Xs 12 with
      | false => rfl
      | true =>
        have y12 := h
        have y4 := hC 12 _ rfl y12 ⟨4, .phase⟩ (by simp) rfl
        rw [hX] at y4; cases y4
    have hw : w = W.drew := hI.wp.1 x12
    subst hw
    have q1 : (0 : Int) ≤ i := by omega
    have q2 : (i : Int) < N := by omega
    go_simp
    exact hI.put' (k := 4) (d := 100) (v := .pointer (some ⟨r1, i, none⟩)) (by decide) (by simp) (by simp) (by simp) (by simpa [addX] using hI.wp)
  · intro Xs a w hX hdep hC hI; have e100 := hI.gk 4 rfl (hdep ⟨4, .data⟩ (by simp) rfl)
    have x12 : Xs 12 = false := by
      cases h : Xs 12 with
      | false => rfl
      | true =>
        have y12 := h
        have y5 := hC 12 _ rfl y12 ⟨5, .phase⟩ (by simp) rfl
        rw [hX] at y5; cases y5
    have hw : w = W.drew := hI.wp.1 x12
    subst hw
    have cc : W.drew.cell? ⟨r1, i, none⟩ = _ := ca
    go_simp
    exact hI.put' (k := 5) (d := 101) (v := .int .u8 av) (by decide) (by simp) (by simp) (by simp) (by simpa [addX] using hI.wp)
  · intro Xs a w hX hdep hC hI; have e13 := hI.gi 13 rfl
    have x12 : Xs 12 = false := by
      cases h : Xs 12 with
      | false => rfl
      | true =>
        have y12 := h
        have y6 := hC 12 _ rfl y12 ⟨6, .phase⟩ (by simp) rfl
        rw [hX] at y6; cases y6
    have hw : w = W.drew := hI.wp.1 x12
    subst hw
    go_simp
    exact hI.put' (k := 6) (d := 102) (v := .slice (some ⟨r2, 0, none⟩) N N) (by decide) (by simp) (by simp) (by simp) (by simpa [addX] using hI.wp)
  · intro Xs a w hX hdep hC hI; have e15 := hI.gi 15 rfl
    have x12 : Xs 12 = false := by
      cases h : Xs 12 with
      | false => rfl
      | true =>
        have y12 := h
        have y7 := hC 12 _ rfl y12 ⟨7, .phase⟩ (by simp) rfl
        rw [hX] at y7; cases y7
    have hw : w = W.drew := hI.wp.1 x12
    subst hw
    go_simp
    exact hI.put' (k := 7) (d := 103) (v := .int .i64 i) (by decide) (by simp) (by simp) (by simp) (by simpa [addX] using hI.wp)
  · intro Xs a w hX hdep hC hI; have e102 := hI.gk 6 rfl (hdep ⟨6, .data⟩ (by simp) rfl); have e103 := hI.gk 7 rfl (hdep ⟨7, .data⟩ (by simp) rfl)
    have x12 : Xs 12 = false := by
      cases h : Xs 12 with
      | false => rfl
      | true =>
        have y12 := h
        have y8 := hC 12 _ rfl y12 ⟨8, .phase⟩ (by simp) rfl
        rw [hX] at y8; cases y8
    have hw : w = W.drew := hI.wp.1 x12
    subst hw
    have q1 : (0 : Int) ≤ i := by omega
    have q2 : (i : Int) < N := by omega
    go_simp
    exact hI.put' (k := 8) (d := 104) (v := .pointer (some ⟨r2, i, none⟩)) (by decide) (by simp) (by simp) (by simp) (by simpa [addX] using hI.wp)
  · intro Xs a w hX hdep hC hI; have e104 := hI.gk 8 rfl (hdep ⟨8, .data⟩ (by simp) rfl)
    have x12 : Xs 12 = false := by
      cases h : Xs 12 with
      | false => rfl
      | true =>
        have y12 := h
        have y9 := hC 12 _ rfl y12 ⟨9, .phase⟩ (by simp) rfl
        rw [hX] at y9; cases y9
    have hw : w = W.drew := hI.wp.1 x12
    subst hw
    have cc : W.drew.cell? ⟨r2, i, none⟩ = _ := cl
    go_simp
    exact hI.put' (k := 9) (d := 105) (v := .int .u8 lv) (by decide) (by simp) (by simp) (by simp) (by simpa [addX] using hI.wp)
  · intro Xs a w hX hdep hC hI; have e101 := hI.gk 5 rfl (hdep ⟨5, .data⟩ (by simp) rfl); have e105 := hI.gk 9 rfl (hdep ⟨9, .data⟩ (by simp) rfl)
    have x12 : Xs 12 = false := by
      cases h : Xs 12 with
      | false => rfl
      | true =>
        have y12 := h
        have y10 := hC 12 _ rfl y12 ⟨10, .data⟩ (by simp) rfl
        rw [hX] at y10; cases y10
    have hw : w = W.drew := hI.wp.1 x12
    subst hw
    go_simp
    exact hI.put' (k := 10) (d := 106) (v := .agg #[.int .u8 av, .int .u8 lv]) (by decide) (by simp) (by simp) (by simp) (by simpa [addX] using hI.wp)
  · intro Xs a w hX hdep hC hI; have e96 := hI.gk 0 rfl (hdep ⟨0, .data⟩ (by simp) rfl); have e97 := hI.gk 1 rfl (hdep ⟨1, .data⟩ (by simp) rfl)
    have x12 : Xs 12 = false := by
      cases h : Xs 12 with
      | false => rfl
      | true =>
        have y12 := h
        have y11 := hC 12 _ rfl y12 ⟨11, .data⟩ (by simp) rfl
        rw [hX] at y11; cases y11
    have hw : w = W.drew := hI.wp.1 x12
    subst hw
    have q1 : (0 : Int) ≤ i := by omega
    have q2 : (i : Int) < N := by omega
    go_simp
    exact hI.put' (k := 11) (d := 107) (v := .pointer (some ⟨r3, i * 2, none⟩)) (by decide) (by simp) (by simp) (by simp) (by simpa [addX] using hI.wp)
  · intro Xs a w hX hdep hC hI; have e107 := hI.gk 11 rfl (hdep ⟨11, .data⟩ (by simp) rfl); have e106 := hI.gk 10 rfl (hdep ⟨10, .data⟩ (by simp) rfl); have hw : w = W.drew := hI.wp.1 hX
    subst hw
    have k0 : W.drew.cell? ⟨r3, i * 2, none⟩ = _ := c0
    have k1 : W.drew.cell? ⟨r3, i * 2 + 1, none⟩ = _ := c1
    have k2 : W.drew.frozen? ⟨r3, i * 2, none⟩ = _ := f0
    have k3 : W.drew.frozen? ⟨r3, i * 2 + 1, none⟩ = _ := f1
    go_simp
    exact hI.put_none' (k := 12) (by simp) ⟨fun h => by simp at h, fun _ => rfl⟩
  · intro Xs a w hX hI
    obtain rfl := hI.wp.2 (hX 12 (by simp))
    exact hQ a ⟨hI.size, hI.defers, hI.inp, rfl⟩
theorem RI.putY {inp : List (Nat × Value)} {kn kn2 : List (Nat × Nat × Value)} {sz : Nat} {ds : List Deferred} {Wp Wp2 : (Nat → Bool) → World → Prop} {X : Nat → Bool} {a : Act} {w w' : World} (h : RI inp kn sz ds Wp X a w) {k d : Nat} {v : Value} (hd : d < sz)
    (h1 : ∀ p ∈ inp, p.1 ≠ d) (h2 : ∀ p ∈ kn2, (p.1 = k ↔ p.2.1 = d)) (h3 : ∀ p ∈ kn2, p.1 = k → p.2.2 = v) (h4 : ∀ p ∈ kn2, p.1 ≠ k → X p.1 = true → p ∈ kn) (hw : Wp2 (addX X k) w') : RI inp kn2 sz ds Wp2 (addX X k) { tmps := a.tmps.setIfInBounds d v, defers := a.defers } w' where
  size := by simpa using h.size
  defers := h.defers
  inp := fun p hp => by
    rw [show ({ tmps := a.tmps.setIfInBounds d v, defers := a.defers } : Act) = a.put (some d) v from rfl, put_getD _ _ _ _ (by rw [h.size]; exact hd), if_neg (h1 p hp)]; exact h.inp p hp
  kn := fun p hp hx => by
    rw [show ({ tmps := a.tmps.setIfInBounds d v, defers := a.defers } : Act) = a.put (some d) v from rfl, put_getD _ _ _ _ (by rw [h.size]; exact hd)]
    by_cases e : p.1 = k
    · rw [if_pos ((h2 p hp).1 e)]; exact (h3 p hp e).symm
    · rw [if_neg (fun e' => e ((h2 p hp).2 e'))]
      rw [addX_ne X e] at hx
      exact h.kn p (h4 p hp e hx) hx
  wp := hw
inductive SomeR (I : Nat → Nat → (Nat → Bool) → Act → World → Prop) (X : Nat → Bool) (a : Act) (w : World) : Prop
  | mk (r s : Nat) (h : I r s X a w) : SomeR I X a w
structure W20 (G0 : World → Prop) (G1 : Nat → World → Prop) (G2 : Nat → Nat → World → Prop) (r1 r2 : Nat) (b2 b5 : Bool) (w : World) : Prop where
  g0 : b2 = false → G0 w
  g1 : b2 = true → b5 = false → G1 r1 w
  g2 : b5 = true → G2 r1 r2 w
def Cells20 (B sB mB : Nat) (X Y Z : Int) (sv : Value) (vs ms : Nat → Value) (w : World) : Prop :=
  w.cell? ⟨B, 0, none⟩ = some (.int .i64 X) ∧ w.cell? ⟨B, 1, none⟩ = some (.int .i64 Y) ∧ w.cell? ⟨B, 2, none⟩ = some (.int .i64 Z) ∧ w.cell? ⟨B, 3, none⟩ = some sv ∧ (∀ j, j < 16 → w.cell? ⟨sB, j, none⟩ = some (vs j)) ∧ (∀ j, j < 16 → w.cell? ⟨mB, j, none⟩ = some (ms j))
theorem W20.cells {G0 : World → Prop} {G1 : Nat → World → Prop} {G2 : Nat → Nat → World → Prop} {r1 r2 : Nat} {b2 b5 : Bool} {w : World} (h : W20 G0 G1 G2 r1 r2 b2 b5 w) {B sB mB : Nat} {X Y Z : Int} {sv : Value} {vs ms : Nat → Value}
    (hG0 : ∀ w, G0 w → Cells20 B sB mB X Y Z sv vs ms w) (hG1 : ∀ r w, G1 r w → Cells20 B sB mB X Y Z sv vs ms w) (h5 : b5 = false) : Cells20 B sB mB X Y Z sv vs ms w := by
  cases h2 : b2 with
  | false => exact hG0 w (h.g0 h2)
  | true => exact hG1 r1 w (h.g1 h2 h5)
theorem l20 (n : Nat) (W : World) (B sB mB N : Nat) (X Y Z : Int) (sv : Value) (vs ms : Nat → Value) (G0 : World → Prop) (G1 : Nat → World → Prop) (G2 : Nat → Nat → World → Prop)
    (hG0 : ∀ w, G0 w → Cells20 B sB mB X Y Z sv vs ms w) (hG1 : ∀ r w, G1 r w → Cells20 B sB mB X Y Z sv vs ms w) (hg : G0 W.drew)
    (hc1 : ∀ m w, G0 w → CallsIn Fence.wide m Try.prog 26 #[.agg #[.int .i64 X, .int .i64 Y, .int .i64 Z, sv], .agg #[vs 0, vs 1, vs 2, vs 3, vs 4, vs 5, vs 6, vs 7, vs 8, vs 9, vs 10, vs 11, vs 12, vs 13, vs 14, vs 15]] w fun e w' => ∃ r, e = .returned (.slice (some ⟨r, 0, none⟩) N N) ∧ G1 r w')
    (hc2 : ∀ m r w, G1 r w → CallsIn Fence.wide m Try.prog 26 #[.agg #[.int .i64 X, .int .i64 Y, .int .i64 Z, sv], .agg #[ms 0, ms 1, ms 2, ms 3, ms 4, ms 5, ms 6, ms 7, ms 8, ms 9, ms 10, ms 11, ms 12, ms 13, ms 14, ms 15]] w fun e w' => ∃ s, e = .returned (.slice (some ⟨s, 0, none⟩) N N) ∧ G2 r s w')
    (Q : Exit → Act → World → Prop) (a : Act) (h0 : SR [(1, .pointer (some ⟨B, 0, none⟩)), (5, .pointer (some ⟨sB, 0, none⟩)), (6, .pointer (some ⟨mB, 0, none⟩))] 110 [] W a W)
    (hQ : ∀ a w r1 r2, G2 r1 r2 w → SR [(1, .pointer (some ⟨B, 0, none⟩)), (12, .slice (some ⟨r1, 0, none⟩) N N), (13, .slice (some ⟨r2, 0, none⟩) N N)] 110 [] w a w → Q .normal a w) : (regOf 20 C14).wpIn Fence.wide n Try.prog Q a W := by
  have hmix : Try.prog.follows .mixedOrders = true := by kernel_rfl
  simp only [regOf, C14, Try.f14, Option.getD, Nat.reduceBEq, Bool.false_eq_true, if_true, if_false]
  refine region_inv (SomeR fun r1 r2 => RI [(1, .pointer (some ⟨B, 0, none⟩)), (5, .pointer (some ⟨sB, 0, none⟩)), (6, .pointer (some ⟨mB, 0, none⟩))]
    [(0, 81, .agg #[.int .i64 X, .int .i64 Y, .int .i64 Z, sv]), (1, 82, .agg #[vs 0, vs 1, vs 2, vs 3, vs 4, vs 5, vs 6, vs 7, vs 8, vs 9, vs 10, vs 11, vs 12, vs 13, vs 14, vs 15]), (2, 83, .slice (some ⟨r1, 0, none⟩) N N), (3, 84, .agg #[.int .i64 X, .int .i64 Y, .int .i64 Z, sv]), (4, 85, .agg #[ms 0, ms 1, ms 2, ms 3, ms 4, ms 5, ms 6, ms 7, ms 8, ms 9, ms 10, ms 11, ms 12, ms 13, ms 14, ms 15]), (5, 86, .slice (some ⟨r2, 0, none⟩) N N), (6, 12, .slice (some ⟨r1, 0, none⟩) N N), (7, 13, .slice (some ⟨r2, 0, none⟩) N N)] 110 [] (fun Xs w => W20 G0 G1 G2 r1 r2 (Xs 2) (Xs 5) w)) hmix (by kernel_rfl) ⟨0, 0, h0.size, h0.defers, h0.kn, by simp, ⟨fun _ => hg, fun h => (by cases h), fun h => (by cases h)⟩⟩ ⟨?_, ?_, ?_, ?_, ?_, ?_, ?_, ?_, trivial⟩ ?_
  · intro Xs a w hX hdep hC hJ
    obtain ⟨r1, r2, hI⟩ := hJ
    have e1 := hI.gi 1 rfl
    have x5 : Xs 5 = false := by
      cases h : Xs 5 with
      | false => rfl
      | true =>
        have y5 := h
        have y2 := hC 5 _ rfl y5 ⟨2, .chain⟩ (by simp) rfl
        have y0 := hC 2 _ rfl y2 ⟨0, .data⟩ (by simp) rfl
        rw [hX] at y0; cases y0
    obtain ⟨cx, cy, cz, c3, cs, cm⟩ := hI.wp.cells hG0 hG1 x5
    clear cs cm
    go_simp
    exact ⟨r1, r2, hI.put' (k := 0) (d := 81) (v := .agg #[.int .i64 X, .int .i64 Y, .int .i64 Z, sv]) (by decide) (by simp) (by simp) (by simp) (by simpa [addX] using hI.wp)⟩
  · intro Xs a w hX hdep hC hJ
    obtain ⟨r1, r2, hI⟩ := hJ
    have e5 := hI.gi 5 rfl
    have x5 : Xs 5 = false := by
      cases h : Xs 5 with
      | false => rfl
      | true =>
        have y5 := h
        have y2 := hC 5 _ rfl y5 ⟨2, .chain⟩ (by simp) rfl
        have y1 := hC 2 _ rfl y2 ⟨1, .data⟩ (by simp) rfl
        rw [hX] at y1; cases y1
    obtain ⟨cx, cy, cz, c3, cs, cm⟩ := hI.wp.cells hG0 hG1 x5
    clear cm
    have k0 := cs 0 (by omega)
    have k1 := cs 1 (by omega)
    have k2 := cs 2 (by omega)
    have k3 := cs 3 (by omega)
    have k4 := cs 4 (by omega)
    have k5 := cs 5 (by omega)
    have k6 := cs 6 (by omega)
    have k7 := cs 7 (by omega)
    have k8 := cs 8 (by omega)
    have k9 := cs 9 (by omega)
    have k10 := cs 10 (by omega)
    have k11 := cs 11 (by omega)
    have k12 := cs 12 (by omega)
    have k13 := cs 13 (by omega)
    have k14 := cs 14 (by omega)
    have k15 := cs 15 (by omega)
    clear cs
    go_simp
    exact ⟨r1, r2, hI.put' (k := 1) (d := 82) (v := .agg #[vs 0, vs 1, vs 2, vs 3, vs 4, vs 5, vs 6, vs 7, vs 8, vs 9, vs 10, vs 11, vs 12, vs 13, vs 14, vs 15]) (by decide) (by simp) (by simp) (by simp) (by simpa [addX] using hI.wp)⟩
  · intro Xs a w hX hdep hC hJ
    obtain ⟨r1, r2, hI⟩ := hJ
    have e81 := hI.gk 0 rfl (hdep ⟨0, .data⟩ (by simp) rfl); have e82 := hI.gk 1 rfl (hdep ⟨1, .data⟩ (by simp) rfl)
    have x5 : Xs 5 = false := by
      cases h : Xs 5 with
      | false => rfl
      | true =>
        have y5 := h
        have y2 := hC 5 _ rfl y5 ⟨2, .chain⟩ (by simp) rfl
        rw [hX] at y2; cases y2
    have hg := hI.wp.g0 hX
    go_simp
    refine ⟨trivial, fun h => (by cases h), (hc1 (n - 1) w hg).mono ?_⟩
    rintro e w' ⟨r, rfl, hg'⟩
    have x6 : Xs 6 = false := by
      cases h : Xs 6 with
      | false => rfl
      | true => have := hC 6 _ rfl h ⟨2, .data⟩ (by simp) rfl; rw [hX] at this; cases this
    refine ⟨r, r2, RI.putY hI (k := 2) (d := 83) (by decide) (by simp) (by simp) (by simp) (by simp [x6]) ?_⟩
    have e5 : addX Xs 2 5 = false := by simp [addX, x5]
    have e2 : addX Xs 2 2 = true := by simp
    show W20 _ _ _ _ _ (addX Xs 2 2) (addX Xs 2 5) _
    rw [e2, e5]
    exact ⟨fun h => (by cases h), fun _ _ => hg', fun h => (by cases h)⟩
  · intro Xs a w hX hdep hC hJ
    obtain ⟨r1, r2, hI⟩ := hJ
    have e1 := hI.gi 1 rfl
    have x5 : Xs 5 = false := by
      cases h : Xs 5 with
      | false => rfl
      | true =>
        have y5 := h
        have y3 := hC 5 _ rfl y5 ⟨3, .data⟩ (by simp) rfl
        rw [hX] at y3; cases y3
    obtain ⟨cx, cy, cz, c3, cs, cm⟩ := hI.wp.cells hG0 hG1 x5
    clear cs cm
    go_simp
    exact ⟨r1, r2, hI.put' (k := 3) (d := 84) (v := .agg #[.int .i64 X, .int .i64 Y, .int .i64 Z, sv]) (by decide) (by simp) (by simp) (by simp) (by simpa [addX] using hI.wp)⟩
  · intro Xs a w hX hdep hC hJ
    obtain ⟨r1, r2, hI⟩ := hJ
    have e6 := hI.gi 6 rfl
    have x5 : Xs 5 = false := by
      cases h : Xs 5 with
      | false => rfl
      | true =>
        have y5 := h
        have y4 := hC 5 _ rfl y5 ⟨4, .data⟩ (by simp) rfl
        rw [hX] at y4; cases y4
    obtain ⟨cx, cy, cz, c3, cs, cm⟩ := hI.wp.cells hG0 hG1 x5
    clear cs
    have k0 := cm 0 (by omega)
    have k1 := cm 1 (by omega)
    have k2 := cm 2 (by omega)
    have k3 := cm 3 (by omega)
    have k4 := cm 4 (by omega)
    have k5 := cm 5 (by omega)
    have k6 := cm 6 (by omega)
    have k7 := cm 7 (by omega)
    have k8 := cm 8 (by omega)
    have k9 := cm 9 (by omega)
    have k10 := cm 10 (by omega)
    have k11 := cm 11 (by omega)
    have k12 := cm 12 (by omega)
    have k13 := cm 13 (by omega)
    have k14 := cm 14 (by omega)
    have k15 := cm 15 (by omega)
    clear cm
    go_simp
    exact ⟨r1, r2, hI.put' (k := 4) (d := 85) (v := .agg #[ms 0, ms 1, ms 2, ms 3, ms 4, ms 5, ms 6, ms 7, ms 8, ms 9, ms 10, ms 11, ms 12, ms 13, ms 14, ms 15]) (by decide) (by simp) (by simp) (by simp) (by simpa [addX] using hI.wp)⟩
  · intro Xs a w hX hdep hC hJ
    obtain ⟨r1, r2, hI⟩ := hJ
    have x2 : Xs 2 = true := hdep ⟨2, .chain⟩ (by simp) rfl
    have e84 := hI.gk 3 rfl (hdep ⟨3, .data⟩ (by simp) rfl); have e85 := hI.gk 4 rfl (hdep ⟨4, .data⟩ (by simp) rfl)
    have hg := hI.wp.g1 x2 hX
    go_simp
    refine ⟨trivial, fun h => (by cases h), (hc2 (n - 1) r1 w hg).mono ?_⟩
    rintro e w' ⟨r, rfl, hg'⟩
    have x7 : Xs 7 = false := by
      cases h : Xs 7 with
      | false => rfl
      | true => have := hC 7 _ rfl h ⟨5, .data⟩ (by simp) rfl; rw [hX] at this; cases this
    refine ⟨r1, r, RI.putY hI (k := 5) (d := 86) (by decide) (by simp) (by simp) (by simp) (by simp [x7]) ?_⟩
    have e5 : addX Xs 5 5 = true := by simp
    have e2 : addX Xs 5 2 = true := by simp [addX, x2]
    show W20 _ _ _ _ _ (addX Xs 5 2) (addX Xs 5 5) _
    rw [e2, e5]
    exact ⟨fun h => (by cases h), fun _ h => (by cases h), fun _ => hg'⟩
  · intro Xs a w hX hdep hC hJ
    obtain ⟨r1, r2, hI⟩ := hJ
    have e83 := hI.gk 2 rfl (hdep ⟨2, .data⟩ (by simp) rfl); go_simp
    exact ⟨r1, r2, hI.put' (k := 6) (d := 12) (v := .slice (some ⟨r1, 0, none⟩) N N) (by decide) (by simp) (by simp) (by simp) (by simpa [addX] using hI.wp)⟩
  · intro Xs a w hX hdep hC hJ
    obtain ⟨r1, r2, hI⟩ := hJ
    have e86 := hI.gk 5 rfl (hdep ⟨5, .data⟩ (by simp) rfl); go_simp
    exact ⟨r1, r2, hI.put' (k := 7) (d := 13) (v := .slice (some ⟨r2, 0, none⟩) N N) (by decide) (by simp) (by simp) (by simp) (by simpa [addX] using hI.wp)⟩
  · intro Xs a w hX hJ
    obtain ⟨r1, r2, hI⟩ := hJ
    refine hQ a w r1 r2 (hI.wp.g2 (hX 5 (by simp))) ⟨hI.size, hI.defers, ?_, rfl⟩
    simp only [List.mem_cons, List.not_mem_nil, or_false, forall_eq_or_imp, forall_eq]
    exact ⟨hI.inp (1, .pointer (some ⟨B, 0, none⟩)) (by simp), hI.kn (6, 12, .slice (some ⟨r1, 0, none⟩) N N) (by simp) (hX 6 (by simp)), hI.kn (7, 13, .slice (some ⟨r2, 0, none⟩) N N) (by simp) (hX 7 (by simp))⟩
end Go.Proofs.Ytmgiabehooghcaa
namespace Go.Proofs.Ytmgiabehooghcaa
open Go.RowKit Go.Shelf
attribute [local go_sem] Oper.semAt_some

structure Li (w0 : World) (bB sB mB : Nat) (X Y Z : Int) (N g off cap : Nat) (sv mv : Nat → Value) (S M : Nat → List Nat) (W : World) : Prop where
  os : W.os = w0.os
  tape : W.tape = w0.tape
  output : W.output = w0.output
  size : w0.heap.size ≤ W.heap.size
  old : ∀ k, k < w0.heap.size → W.heap[k]? = w0.heap[k]?
  bx : W.heap[bB]? = some (.cells #[.int .i64 X, .int .i64 Y, .int .i64 Z, .slice (some ⟨g, off, none⟩) N cap] 24 (0, 0))
  sk : Lists W sB sv S
  lm : Lists W mB mv M
  cross : ∀ m m', m < 16 → m' < 16 → ∀ k, (sv m).ownBlock = some k → (mv m').ownBlock ≠ some k
  gs : ∀ m, m < 16 → ∀ k, (sv m).ownBlock = some k → w0.heap.size ≤ k
  gm : ∀ m, m < 16 → ∀ k, (mv m).ownBlock = some k → w0.heap.size ≤ k
  nb : w0.heap.size ≤ bB
  ns : w0.heap.size ≤ sB
  nm : w0.heap.size ≤ mB
  ne : sB ≠ mB
section
variable {w0 : World} {bB sB mB : Nat} {X Y Z : Int} {N g off cap : Nat} {sv mv : Nat → Value} {S M : Nat → List Nat} {W W' : World}
theorem Li.below (h : Li w0 bB sB mB X Y Z N g off cap sv mv S M W) (hb : Below W.heap.size W W') : Li w0 bB sB mB X Y Z N g off cap sv mv S M W' := by
  have hk : ∀ {k o}, W.heap[k]? = some o → W'.heap[k]? = W.heap[k]? := fun hk => hb.block _ (Array.getElem?_eq_some_iff.1 hk).1
  obtain ⟨c1, h1, _⟩ := h.sk.blk
  obtain ⟨c2, h2, _⟩ := h.lm.blk
  exact { os := hb.os.trans h.os, tape := hb.tape.trans h.tape, output := hb.output.trans h.output, size := Nat.le_trans h.size hb.size
          old := fun k hk' => (hb.block k (Nat.lt_of_lt_of_le hk' h.size)).trans (h.old k hk'), bx := (hk h.bx).trans h.bx
          sk := h.sk.same (hk h1) (fun m hm g hg => by obtain ⟨c, hc⟩ := ownsRow_blk (h.sk.rows m hm) hg; exact hk hc)
          lm := h.lm.same (hk h2) (fun m hm g hg => by obtain ⟨c, hc⟩ := ownsRow_blk (h.lm.rows m hm) hg; exact hk hc)
          cross := h.cross, gs := h.gs, gm := h.gm, nb := h.nb, ns := h.ns, nm := h.nm, ne := h.ne }
theorem Li.cell (h : Li w0 bB sB mB X Y Z N g off cap sv mv S M W) : W.cell? ⟨bB, 0, none⟩ = some (.int .i64 X) ∧ W.cell? ⟨bB, 1, none⟩ = some (.int .i64 Y) ∧ W.cell? ⟨bB, 2, none⟩ = some (.int .i64 Z) ∧ W.cell? ⟨bB, 3, none⟩ = some (.slice (some ⟨g, off, none⟩) N cap) := by
  refine ⟨?_, ?_, ?_, ?_⟩ <;> simp [World.cell?, h.bx]
theorem Li.lt (h : Li w0 bB sB mB X Y Z N g off cap sv mv S M W) : bB < W.heap.size := (Array.getElem?_eq_some_iff.1 h.bx).1
theorem own_ne_t {e : TypeId} {vs : Nat → Value} {Ls : Nat → List Nat} {lB m k b : Nat} (h : Lists W lB vs Ls) (hm : m < 16) (hk : (vs m).ownBlock = some k) {cs : Array Value} (hb : W.heap[b]? = some (.cells cs e (0, 0))) (ht : e ≠ 3) : k ≠ b := by
  obtain ⟨cur, h1⟩ := ownsRow_blk (h.rows m hm) hk
  exact heap_ne_of h1 hb (by intro e; cases e; exact ht rfl)
theorem Li.sky {w1 : World} {m s : Nat} {V' : Value} (h : Li w0 bB sB mB X Y Z N g off cap sv mv S M W) (hm : m < 16) (ha : App W (sv m) (S m).length (intsV (S m)) (.int .i64 s) V' w1) :
    Li w0 bB sB mB X Y Z N g off cap (upd sv m V') mv (upd S m (S m ++ [s])) M (w1.setCell ⟨sB, m, none⟩ V') := by
  obtain ⟨hL, hk, hsz⟩ := h.sk.app hm ha
  obtain ⟨c1, h1, _⟩ := h.sk.blk
  obtain ⟨c2, h2, _⟩ := h.lm.blk
  have hlt : ∀ {k o}, W.heap[k]? = some o → k < W.heap.size := fun hk => (Array.getElem?_eq_some_iff.1 hk).1
  have hown : ∀ j, j < 16 → ∀ k, (upd sv m V' j).ownBlock = some k → (∃ j', j' < 16 ∧ (sv j').ownBlock = some k) ∨ W.heap.size ≤ k := fun j hj k hjk => by
    by_cases e : j = m
    · subst e
      rw [upd_same] at hjk
      rcases ha.at_ with e1 | ⟨q, e1, e2⟩
      · exact .inl ⟨j, hj, e1.symm.trans hjk⟩
      · rw [e2] at hjk; right; simp at hjk; omega
    · rw [upd_ne _ _ e] at hjk; exact .inl ⟨j, hj, hjk⟩
  refine { os := ha.os.trans h.os, tape := ha.tape.trans h.tape, output := ha.output.trans h.output, size := Nat.le_trans h.size hsz, old := fun k hk' => ?_, bx := ?_, sk := hL, lm := h.lm.same ?_ (fun j hj k hjk => ?_)
           cross := fun j j' hj hj' k hjk e => ?_, gs := fun j hj k hjk => ?_, gm := h.gm, nb := h.nb, ns := h.ns, nm := h.nm, ne := h.ne }
  · refine (hk k (Nat.lt_of_lt_of_le hk' h.size) (by have := h.ns; omega) (fun e => ?_)).trans (h.old k hk')
    have := h.gs m hm k e; omega
  · exact (hk _ (hlt h.bx) (heap_ne_of h.bx h1 (by intro e; cases e)) (fun e => own_ne_t h.sk hm e h.bx (by decide) rfl)).trans h.bx
  · exact hk _ (hlt h2) (Ne.symm h.ne) (fun e => own_ne_t h.sk hm e h2 (by decide) rfl)
  · exact hk k (h.lm.own_lt hj hjk) (own_ne_t h.lm hj hjk h1 (by decide)) (fun e => h.cross m j hm hj k e hjk)
  · rcases hown j hj k hjk with ⟨q, hq, h3⟩ | h3
    · exact h.cross q j' hq hj' k h3 e
    · have := h.lm.own_lt hj' e; omega
  · rcases hown j hj k hjk with ⟨q, hq, h3⟩ | h3
    · exact h.gs q hq k h3
    · have := h.size; omega
theorem Li.lamp {w1 : World} {m s : Nat} {V' : Value} (h : Li w0 bB sB mB X Y Z N g off cap sv mv S M W) (hm : m < 16) (ha : App W (mv m) (M m).length (intsV (M m)) (.int .i64 s) V' w1) :
    Li w0 bB sB mB X Y Z N g off cap sv (upd mv m V') S (upd M m (M m ++ [s])) (w1.setCell ⟨mB, m, none⟩ V') := by
  obtain ⟨hL, hk, hsz⟩ := h.lm.app hm ha
  obtain ⟨c1, h1, _⟩ := h.sk.blk
  obtain ⟨c2, h2, _⟩ := h.lm.blk
  have hlt : ∀ {k o}, W.heap[k]? = some o → k < W.heap.size := fun hk => (Array.getElem?_eq_some_iff.1 hk).1
  have hown : ∀ j, j < 16 → ∀ k, (upd mv m V' j).ownBlock = some k → (∃ j', j' < 16 ∧ (mv j').ownBlock = some k) ∨ W.heap.size ≤ k := fun j hj k hjk => by
    by_cases e : j = m
    · subst e
      rw [upd_same] at hjk
      rcases ha.at_ with e1 | ⟨q, e1, e2⟩
      · exact .inl ⟨j, hj, e1.symm.trans hjk⟩
      · rw [e2] at hjk; right; simp at hjk; omega
    · rw [upd_ne _ _ e] at hjk; exact .inl ⟨j, hj, hjk⟩
  refine { os := ha.os.trans h.os, tape := ha.tape.trans h.tape, output := ha.output.trans h.output, size := Nat.le_trans h.size hsz, old := fun k hk' => ?_, bx := ?_, lm := hL, sk := h.sk.same ?_ (fun j hj k hjk => ?_)
           cross := fun j j' hj hj' k hjk e => ?_, gm := fun j hj k hjk => ?_, gs := h.gs, nb := h.nb, ns := h.ns, nm := h.nm, ne := h.ne }
  · refine (hk k (Nat.lt_of_lt_of_le hk' h.size) (by have := h.nm; omega) (fun e => ?_)).trans (h.old k hk')
    have := h.gm m hm k e; omega
  · exact (hk _ (hlt h.bx) (heap_ne_of h.bx h2 (by intro e; cases e)) (fun e => own_ne_t h.lm hm e h.bx (by decide) rfl)).trans h.bx
  · exact hk _ (hlt h1) h.ne (fun e => own_ne_t h.lm hm e h1 (by decide) rfl)
  · exact hk k (h.sk.own_lt hj hjk) (own_ne_t h.sk hj hjk h2 (by decide)) (fun e => h.cross j m hj hm k hjk e)
  · rcases hown j' hj' k e with ⟨q, hq, h3⟩ | h3
    · exact h.cross j q hj hq k hjk h3
    · have := h.sk.own_lt hj hjk; omega
  · rcases hown j hj k hjk with ⟨q, hq, h3⟩ | h3
    · exact h.gm q hq k h3
    · have := h.size; omega
end
def colF (cl : Nat → Bool) (ly c : Nat) : Nat → List Nat
  | 0 => []
  | t + 1 => if cl (t * ly + c) = true then (t * ly + c) :: colF cl ly c t else []
theorem colF_len (cl : Nat → Bool) (ly c : Nat) : ∀ t, (colF cl ly c t).length ≤ t
  | 0 => Nat.le_refl _
  | t + 1 => by
    unfold colF; split
    · have := colF_len cl ly c t; simp; omega
    · simp
theorem colF_mem {cl : Nat → Bool} {ly c i : Nat} : ∀ {t}, i ∈ colF cl ly c t → ∃ y, y < t ∧ i = y * ly + c ∧ ∀ y', y ≤ y' → y' < t → cl (y' * ly + c) = true
  | 0, h => by cases h
  | t + 1, h => by
    unfold colF at h
    split at h
    · rename_i hc
      rcases List.mem_cons.1 h with rfl | h
      · exact ⟨t, by omega, rfl, fun y' h1 h2 => (show y' = t by omega) ▸ hc⟩
      · obtain ⟨y, h1, h2, h3⟩ := colF_mem h
        refine ⟨y, by omega, h2, fun y' h4 h5 => ?_⟩
        by_cases e : y' = t
        · subst e; exact hc
        · exact h3 y' h4 (by omega)
    · cases h
theorem colF_of {cl : Nat → Bool} {ly c y : Nat} : ∀ {t}, y < t → (∀ y', y ≤ y' → y' < t → cl (y' * ly + c) = true) → y * ly + c ∈ colF cl ly c t
  | 0, h, _ => by omega
  | t + 1, h, hc => by
    unfold colF
    rw [if_pos (hc t (by omega) (by omega))]
    by_cases e : y = t
    · subst e; simp
    · exact List.mem_cons_of_mem _ (colF_of (by omega) fun y' h1 h2 => hc y' h1 (by omega))
def skyF (cl : Nat → Bool) (ly Y : Nat) (c : Nat) : List Nat := (List.range c).flatMap fun c => colF cl ly c Y
theorem skyF_succ (cl : Nat → Bool) (ly Y c : Nat) : skyF cl ly Y (c + 1) = skyF cl ly Y c ++ colF cl ly c Y := by
  unfold skyF; rw [List.range_succ, List.flatMap_append]; simp
theorem skyF_len (cl : Nat → Bool) (ly Y : Nat) : ∀ c, (skyF cl ly Y c).length ≤ c * Y
  | 0 => by simp [skyF]
  | c + 1 => by
    rw [skyF_succ, List.length_append, Nat.add_mul, Nat.one_mul]
    have := skyF_len cl ly Y c
    have := colF_len cl ly c Y
    omega
def lampF (cl : Nat → Bool) (lm : Nat → Nat) (k m : Nat) : List Nat := (List.range k).filter fun s => cl s && (lm s == m)
theorem lampF_succ (cl : Nat → Bool) (lm : Nat → Nat) (k m : Nat) : lampF cl lm (k + 1) m = lampF cl lm k m ++ if (cl k && (lm k == m)) = true then [k] else [] := by
  unfold lampF; rw [List.range_succ, List.filter_append]; simp [List.filter_cons]
end Go.Proofs.Ytmgiabehooghcaa
namespace Go.Proofs.Ytmgiabehooghcaa
open Go.RowKit Go.Shelf
attribute [local go_sem] Oper.semAt_some

noncomputable def LpB : Code := .seq (.seq (regOf 10 C14) (.cond (.tmp 46) .skip (.exit 2))) (.seq (.block 3 (regOf 12 C14)) (regOf 11 C14))
noncomputable def LpA : Code := .seq (regOf 7 C14) (.seq (.cond (.tmp 28) .skip (.exit 0)) (.seq (.block 1 (.seq (regOf 8 C14) (.seq (regOf 9 C14) (.block 2 (.loop LpB))))) (regOf 13 C14)))
noncomputable def LpC : Code := .seq (regOf 15 C14) (.seq (.cond (.tmp 64) .skip (.exit 4)) (.seq (.block 5 (.seq (regOf 16 C14) (.seq (regOf 17 C14) (.cond (.tmp 69) (regOf 18 C14) .skip)))) (regOf 19 C14)))
noncomputable def LpD : Code := .seq (regOf 23 C14) (.seq (.cond (.tmp 94) .skip (.exit 6)) (.seq (.block 7 (.seq (regOf 24 C14) (regOf 25 C14))) (regOf 26 C14)))
theorem C14_eq : C14 = .seq (regOf 0 C14) (.seq (.seq (regOf 1 C14) (.seq (regOf 2 C14) (.cond (.tmp 19) (.seq (regOf 3 C14) .ret) .skip))) (.seq (regOf 4 C14) (.seq (regOf 5 C14) (.seq (.seq (regOf 6 C14) (.block 0 (.loop LpA))) (.seq (.seq (regOf 14 C14) (.block 4 (.loop LpC))) (.seq (regOf 20 C14) (.seq (regOf 21 C14) (.seq (.seq (regOf 22 C14) (.block 6 (.loop LpD))) (.seq (regOf 27 C14) .ret))))))))) := by kernel_rfl
def slotN (t : Nat) (a : Act) : Nat := match a.tmps[t]?.getD undef with | .int _ v => v.toNat | _ => 0
theorem slotN_of {kn : List (Nat × Value)} {sz : Nat} {ds : List Deferred} {W : World} {a : Act} {w : World} (h : SR kn sz ds W a w) {t : Nat} {v : Nat} {k : IntKind} (hp : (t, .int k v) ∈ kn) : slotN t a = v := by
  have := h.kn _ hp
  unfold slotN; rw [this]; exact Int.toNat_natCast v
abbrev A7 (B sB mB ly c : Nat) : List (Nat × Value) := [(1, .pointer (some ⟨B, 0, none⟩)), (5, .pointer (some ⟨sB, 0, none⟩)), (6, .pointer (some ⟨mB, 0, none⟩)), (7, .int .i64 ly), (26, .int .i64 ly), (27, .int .i64 c)]
abbrev A8 (B sB mB ly c : Nat) (y : Int) : List (Nat × Value) := [(1, .pointer (some ⟨B, 0, none⟩)), (5, .pointer (some ⟨sB, 0, none⟩)), (6, .pointer (some ⟨mB, 0, none⟩)), (7, .int .i64 ly), (26, .int .i64 ly), (27, .int .i64 c), (8, .int .i64 c), (9, .int .i64 y)]
section
variable {w0 : World} {bB sB mB : Nat} {X Y Z N g off cap : Nat} {K V : Nat → Nat} {cl : Nat → Bool} {mv : Nat → Value} {M : Nat → List Nat}
theorem idx_lt {ly : Nat} {Y c y : Nat} (hy : y < Y) (hc : c < ly) : y * ly + c < Y * ly := by
  have : (y + 1) * ly ≤ Y * ly := Nat.mul_le_mul_right _ hy
  rw [Nat.add_mul] at this; omega
theorem column_in (n : Nat) (hc : Cells w0 (fun _ => False) N g off K V cl) (ly c : Nat) (hNe : N = Y * ly) (hY : Y ≤ 256) (hly : ly ≤ 65536) (hcl : c < ly) (S : Nat → List Nat) (hS15 : (S 15).length ≤ 300000) (sv : Nat → Value) (W : World) (hL : Li w0 bB sB mB (X : Int) Y Z N g off cap sv mv S M W)
    (a : Act) (ha : SR (A8 bB sB mB ly c ((Y : Int) - 1)) 110 [] W a W) (Q : Exit → Act → World → Prop)
    (hQ : ∀ a' W' sv', SR (A7 bB sB mB ly c) 110 [] W' a' W' → Li w0 bB sB mB (X : Int) Y Z N g off cap sv' mv (upd S 15 (S 15 ++ colF cl ly c Y)) M W' → Q .normal a' W') :
    (Code.block 2 (.loop LpB)).wpIn Fence.wide n Try.prog Q a W := by
  have hstart : Li w0 bB sB mB (X : Int) Y Z N g off cap sv mv (upd S 15 (S 15 ++ [])) M W := by
    have : upd S 15 (S 15 ++ []) = S := by funext j; unfold upd; split
                                           · rename_i h; rw [h]; simp
                                           · rfl
    rw [this]; exact hL
  refine wpIn_block (wpIn_loop (fun a W => ∃ (t : Nat) (d : List Nat) (sv : Nat → Value), t ≤ Y ∧ d ++ colF cl ly c t = colF cl ly c Y ∧ SR (A8 bB sB mB ly c ((t : Int) - 1)) 110 [] W a W ∧ Li w0 bB sB mB (X : Int) Y Z N g off cap sv mv (upd S 15 (S 15 ++ d)) M W)
    (fun a _ => match a.tmps[9]?.getD undef with | .int _ v => (v + 1).toNat | _ => 0) ⟨Y, [], sv, Nat.le_refl _, rfl, ha, hstart⟩ ?_)
  rintro a W ⟨t, d, sv, ht, hd, ha, hL⟩
  have hmu : ∀ (a : Act) (W : World) (t : Nat), SR (A8 bB sB mB ly c ((t : Int) - 1)) 110 [] W a W → (match a.tmps[9]?.getD undef with | .int _ v => (v + 1).toNat | _ => 0) = t := fun a W t h => by
    rw [h.kn (9, .int .i64 ((t : Int) - 1)) (by simp)]
    show ((t : Int) - 1 + 1).toNat = t
    omega
  simp only [hmu a W t ha]
  obtain ⟨cx, cy, cz, c3⟩ := hL.cell
  have hzb := hL.lt
  unfold LpB
  refine wpIn_seq (wpIn_seq ?_)
  cases t with
  | zero =>
    refine l10n n W bB sB mB ly c _ a (ha.sub (by simp)) ?_
    intro a1 w1 hb h1
    refine wpIn_cond (t := false) (by rw [eval_tmp]; exact h1.kn (46, .bool false) (by simp)) (wpIn_exit ?_)
    have hd' : d = colF cl ly c Y := by simpa [colF] using hd
    rw [hd'] at hL
    exact hQ a1 w1 sv (h1.sub (by simp)) (hL.below hb)
  | succ y =>
    have hi := idx_lt (ly := ly) (show y < Y by omega) hcl
    have hiN : y * ly + c < N := by rw [hNe]; exact hi
    have hN := hc.n
    have hcast : ((y * ly + c : Nat) : Int) = (y : Int) * ly + c := by rw [Int.natCast_add, Int.natCast_mul]
    have hm0 : (0 : Int) ≤ (y : Int) * ly := Int.mul_nonneg (by omega) (by omega)
    have hw1 : IntKind.i64.wrap ((y : Int) * ly) = (y : Int) * ly := wrap_in (by omega) (by omega)
    have hw2 : IntKind.i64.wrap ((y : Int) * ly + c) = ((y * ly + c : Nat) : Int) := by rw [hcast]; exact wrap_in (by omega) (by omega)
    have hg : W.heap[g]? = w0.heap[g]? := hL.old g hc.lt
    have hk := (cell_of_heap hg (off + (y * ly + c) * 2)).trans (hc.kind _ hiN)
    have hv := (cell_of_heap hg (off + (y * ly + c) * 2 + 1)).trans (hc.level _ hiN)
    have ey : ((y + 1 : Nat) : Int) - 1 = (y : Int) := by omega
    rw [ey] at ha
    refine l10y n W bB sB mB ly c y (y * ly + c) N g off cap (K (y * ly + c)) (V (y * ly + c)) (cl (y * ly + c)) c3 hzb hk hv (Nat.lt_of_lt_of_le hc.lt hL.size) hiN hw1 hw2 (fun m W => hc.clear _ hiN W m) _ a (ha.sub (by simp)) ?_
    intro a1 w1 hb h1
    have hL1 := hL.below hb
    refine wpIn_cond (t := cl (y * ly + c)) (by rw [eval_tmp]; exact h1.kn (46, .bool (cl (y * ly + c))) (by simp)) ?_
    cases hcc : cl (y * ly + c) with
    | false =>
      refine wpIn_exit ?_
      have hd' : d = colF cl ly c Y := by rw [← hd]; unfold colF; rw [if_neg (by rw [hcc]; simp)]; simp
      rw [hd'] at hL1
      exact hQ a1 w1 sv (h1.sub (by simp)) hL1
    | true =>
      refine wpIn_skip (wpIn_seq (wpIn_block ?_))
      have hlen : (upd S 15 (S 15 ++ d) 15).length < 17592186044415 := by
        rw [upd_same, List.length_append]
        have h1 : d.length ≤ (colF cl ly c Y).length := by rw [← hd, List.length_append]; omega
        have h2 := colF_len cl ly c Y
        omega
      refine l12 n w1 bB sB mB ly c y (y * ly + c) hw1 hw2 sv (upd S 15 (S 15 ++ d)) hL1.sk (by omega) hlen _ a1 (h1.sub (by simp)) ?_
      intro a2 w2 V' hA h2
      have hL2 := hL1.sky (by omega) hA
      show (regOf 11 C14).wpIn _ _ _ _ _ _
      generalize w2.setCell ⟨sB, 15, none⟩ V' = w3 at h2 hL2 ⊢
      refine l11 n w3 bB sB mB ly c y (wrap_in (by omega) (by omega)) _ a2 (h2.sub (by simp)) ?_
      intro a3 h3
      have h3' : SR (A8 bB sB mB ly c ((y : Int) - 1)) 110 [] w3 a3 w3 := h3.sub (by simp)
      refine ⟨⟨y, d ++ [y * ly + c], upd sv 15 V', by omega, ?_, h3', ?_⟩, ?_⟩
      · rw [← hd]
        conv => rhs; unfold colF
        rw [if_pos hcc, List.append_assoc]; rfl
      · have e2 : upd (upd S 15 (S 15 ++ d)) 15 (upd S 15 (S 15 ++ d) 15 ++ [y * ly + c]) = upd S 15 (S 15 ++ (d ++ [y * ly + c])) := by
          rw [upd_same, List.append_assoc]; funext j; unfold upd; split <;> rfl
        rw [e2] at hL2; exact hL2
      · simp only [hmu a3 w3 y h3']; omega
theorem columns_in (n : Nat) (hc : Cells w0 (fun _ => False) N g off K V cl) (ly : Nat) (hNe : N = Y * ly) (hY0 : 1 ≤ Y) (hY : Y ≤ 256) (hly : ly ≤ 65536) (sv : Nat → Value) (W : World) (hL : Li w0 bB sB mB (X : Int) Y Z N g off cap sv mv (fun _ => []) M W)
    (a : Act) (ha : SR (A7 bB sB mB ly 0) 110 [] W a W) (Q : Exit → Act → World → Prop)
    (hQ : ∀ a' W' sv', SR [(1, .pointer (some ⟨bB, 0, none⟩)), (5, .pointer (some ⟨sB, 0, none⟩)), (6, .pointer (some ⟨mB, 0, none⟩))] 110 [] W' a' W' → Li w0 bB sB mB (X : Int) Y Z N g off cap sv' mv (upd (fun _ => []) 15 (skyF cl ly Y ly)) M W' → Q .normal a' W') :
    (Code.block 0 (.loop LpA)).wpIn Fence.wide n Try.prog Q a W := by
  have hstart : Li w0 bB sB mB (X : Int) Y Z N g off cap sv mv (upd (fun _ => []) 15 (skyF cl ly Y 0)) M W := by
    have : upd (fun _ => ([] : List Nat)) 15 (skyF cl ly Y 0) = fun _ => [] := by funext j; unfold upd; split <;> simp [skyF]
    rw [this]; exact hL
  refine wpIn_block (wpIn_loop (fun a W => ∃ (c : Nat) (sv : Nat → Value), c ≤ ly ∧ SR (A7 bB sB mB ly c) 110 [] W a W ∧ Li w0 bB sB mB (X : Int) Y Z N g off cap sv mv (upd (fun _ => []) 15 (skyF cl ly Y c)) M W)
    (fun a _ => ly - slotN 27 a) ⟨0, sv, Nat.zero_le _, ha, hstart⟩ ?_)
  rintro a W ⟨c, sv, hcl, ha, hL⟩
  have e27 := slotN_of ha (t := 27) (v := c) (k := .i64) (by simp)
  obtain ⟨cx, cy, cz, c3⟩ := hL.cell
  unfold LpA
  refine wpIn_seq (l7 n W bB sB mB ly c _ a ha ?_)
  intro a1 h1
  refine wpIn_seq (wpIn_cond (t := decide (c < ly)) (by rw [eval_tmp]; exact h1.kn (28, _) (by simp)) ?_)
  by_cases hlt : c < ly
  · rw [decide_eq_true hlt]
    refine wpIn_skip (wpIn_seq (wpIn_block (wpIn_seq ?_)))
    refine l8 n W bB sB mB ly c _ a1 (h1.sub (by simp)) ?_
    intro a2 h2
    refine wpIn_seq (l9 n W bB sB mB ly c Y cy (wrap_in (by omega) (by omega)) _ a2 h2 ?_)
    intro a3 h3
    have hlen := skyF_len cl ly Y c
    have hcy : c * Y ≤ N := by rw [hNe, Nat.mul_comm]; exact Nat.mul_le_mul_left _ hcl
    have hN := hc.n
    refine column_in n hc ly c hNe hY hly hlt (upd (fun _ => []) 15 (skyF cl ly Y c)) (by rw [upd_same]; omega) sv W hL a3 (h3.sub (by simp)) _ ?_
    intro a4 W4 sv4 h4 hL4
    show (regOf 13 C14).wpIn _ _ _ _ _ _
    refine l13 n W4 bB sB mB ly c (by omega) _ a4 h4 ?_
    intro a5 h5
    have h5' : SR (A7 bB sB mB ly (c + 1)) 110 [] W4 a5 W4 := h5
    refine ⟨⟨c + 1, sv4, hlt, h5', ?_⟩, by rw [e27, slotN_of h5' (t := 27) (v := c + 1) (k := .i64) (by simp)]; omega⟩
    have e2 : upd (upd (fun _ => []) 15 (skyF cl ly Y c)) 15 (upd (fun _ => []) 15 (skyF cl ly Y c) 15 ++ colF cl ly c Y) = upd (fun _ => []) 15 (skyF cl ly Y (c + 1)) := by
      rw [upd_same, ← skyF_succ]; funext j; unfold upd; split <;> rfl
    rw [e2] at hL4; exact hL4
  · rw [decide_eq_false hlt]
    refine wpIn_exit ?_
    have hce : c = ly := by omega
    rw [hce] at hL
    exact hQ a1 W sv (h1.sub (by simp)) hL
end
end Go.Proofs.Ytmgiabehooghcaa
namespace Go.Proofs.Ytmgiabehooghcaa
open Go.RowKit Go.Shelf
attribute [local go_sem] Oper.semAt_some

abbrev A63 (B sB mB g off N cap i : Nat) : List (Nat × Value) := [(1, .pointer (some ⟨B, 0, none⟩)), (5, .pointer (some ⟨sB, 0, none⟩)), (6, .pointer (some ⟨mB, 0, none⟩)), (61, .slice (some ⟨g, off, none⟩) N cap), (62, .int .i64 N), (63, .int .i64 i)]
section
variable {w0 : World} {bB sB mB : Nat} {X Y Z N g off cap : Nat} {K V : Nat → Nat} {cl : Nat → Bool} {S : Nat → List Nat}
theorem lampF_upd (cl : Nat → Bool) (lm : Nat → Nat) (k : Nat) : (lampF cl lm (k + 1)) = if cl k = true then upd (lampF cl lm k) (lm k) (lampF cl lm k (lm k) ++ [k]) else lampF cl lm k := by
  funext m
  rw [lampF_succ]
  cases hc : cl k with
  | true =>
    rw [if_pos rfl]
    unfold upd
    by_cases e : m = lm k
    · rw [if_pos e, e]; simp
    · rw [if_neg e, if_neg (by simp; exact fun h => e h.symm)]; simp
  | false =>
    rw [if_neg (by simp), if_neg (by simp)]; simp
theorem lampF_len (cl : Nat → Bool) (lm : Nat → Nat) (k m : Nat) : (lampF cl lm k m).length ≤ k := by
  have := List.length_filter_le (fun s => cl s && (lm s == m)) (List.range k)
  unfold lampF; simpa using this
theorem lamps_in (n : Nat) (hc : Cells w0 (fun _ => False) N g off K V cl) (lm : Nat → Nat) (hlm : ∀ s, s < N → lm s ≤ 15 ∧ ∀ m W, CallsIn Fence.wide m Try.prog 18 #[.agg #[.int .u8 (K s), .int .u8 (V s)]] W fun e w' => e = .returned (.int .u8 (lm s)) ∧ Below W.heap.size W w')
    (sv mv : Nat → Value) (W : World) (hL : Li w0 bB sB mB (X : Int) Y Z N g off cap sv mv S (fun _ => []) W)
    (a : Act) (ha : SR (A63 bB sB mB g off N cap 0) 110 [] W a W) (Q : Exit → Act → World → Prop)
    (hQ : ∀ a' W' mv', SR [(1, .pointer (some ⟨bB, 0, none⟩)), (5, .pointer (some ⟨sB, 0, none⟩)), (6, .pointer (some ⟨mB, 0, none⟩))] 110 [] W' a' W' → Li w0 bB sB mB (X : Int) Y Z N g off cap sv mv' S (lampF cl lm N) W' → Q .normal a' W') :
    (Code.block 4 (.loop LpC)).wpIn Fence.wide n Try.prog Q a W := by
  have hstart : Li w0 bB sB mB (X : Int) Y Z N g off cap sv mv S (lampF cl lm 0) W := by
    have : lampF cl lm 0 = fun _ => [] := by funext m; simp [lampF]
    rw [this]; exact hL
  refine wpIn_block (wpIn_loop (fun a W => ∃ (i : Nat) (mv : Nat → Value), i ≤ N ∧ SR (A63 bB sB mB g off N cap i) 110 [] W a W ∧ Li w0 bB sB mB (X : Int) Y Z N g off cap sv mv S (lampF cl lm i) W)
    (fun a _ => N - slotN 63 a) ⟨0, mv, Nat.zero_le _, ha, hstart⟩ ?_)
  rintro a W ⟨i, mv, hin, ha, hL⟩
  have e63 := slotN_of ha (t := 63) (v := i) (k := .i64) (by simp)
  have hN := hc.n
  unfold LpC
  refine wpIn_seq (l15 n W bB sB mB N g off cap i _ a ha ?_)
  intro a1 h1
  refine wpIn_seq (wpIn_cond (t := decide (i < N)) (by rw [eval_tmp]; exact h1.kn (64, _) (by simp)) ?_)
  by_cases hlt : i < N
  · rw [decide_eq_true hlt]
    have hg : W.heap[g]? = w0.heap[g]? := hL.old g hc.lt
    have hk := (cell_of_heap hg (off + i * 2)).trans (hc.kind _ hlt)
    have hv := (cell_of_heap hg (off + i * 2 + 1)).trans (hc.level _ hlt)
    refine wpIn_skip (wpIn_seq (wpIn_block (wpIn_seq ?_)))
    refine l16 n W bB sB mB N g off cap i (K i) (V i) hlt hk hv _ a1 (h1.sub (by simp)) ?_
    intro a2 h2
    obtain ⟨n0, n1, _, _⟩ := cell2_new W 32 (.int .u8 (K i)) (.int .u8 (V i))
    have hL2 := hL.below ((Below.refl _ _).alloc (Nat.le_refl _) (.cells #[.int .u8 (K i), .int .u8 (V i)] 32))
    have hsz : W.heap.size < (W.alloc (.cells #[.int .u8 (K i), .int .u8 (V i)] 32)).heap.size := by simp
    generalize W.alloc (.cells #[.int .u8 (K i), .int .u8 (V i)] 32) = W2 at h2 n0 n1 hL2 hsz ⊢
    refine wpIn_seq (l17 n W2 bB sB mB W.heap.size N g off cap i (K i) (V i) (cl i) n0 n1 hsz (fun m W => hc.clear i hlt W m) _ a2 h2 ?_)
    intro a3 W3 hb3 h3
    have hL3 := hL2.below hb3
    have hin3 : ∀ (a4 : Act) (W4 : World) (mv4 : Nat → Value), SR (A63 bB sB mB g off N cap i) 110 [] W4 a4 W4 → Li w0 bB sB mB (X : Int) Y Z N g off cap sv mv4 S (lampF cl lm (i + 1)) W4 →
        (regOf 19 C14).wpIn Fence.wide n Try.prog (Exit.then (fun a' W' => (∃ (i : Nat) (mv : Nat → Value), i ≤ N ∧ SR (A63 bB sB mB g off N cap i) 110 [] W' a' W' ∧ Li w0 bB sB mB (X : Int) Y Z N g off cap sv mv S (lampF cl lm i) W') ∧ N - slotN 63 a' < N - slotN 63 a) (Exit.inBlock 4 Q)) a4 W4 := by
      intro a4 W4 mv4 h4 hL4
      refine l19 n W4 bB sB mB N g off cap i (by omega) _ a4 h4 ?_
      intro a5 h5
      have h5' : SR (A63 bB sB mB g off N cap (i + 1)) 110 [] W4 a5 W4 := h5
      exact ⟨⟨i + 1, mv4, hlt, h5', hL4⟩, by rw [e63, slotN_of h5' (t := 63) (v := i + 1) (k := .i64) (by simp)]; omega⟩
    refine wpIn_cond (t := cl i) (by rw [eval_tmp]; exact h3.kn (69, .bool (cl i)) (by simp)) ?_
    have hup := lampF_upd cl lm i
    cases hcc : cl i with
    | true =>
      rw [if_pos hcc] at hup
      obtain ⟨hl15, hcall⟩ := hlm i hlt
      have hlen := lampF_len cl lm i (lm i)
      refine l18 n W3 bB sB mB W.heap.size N g off cap i (K i) (V i) (lm i) ((hb3.cell (p := ⟨W.heap.size, 0, none⟩) hsz).trans n0) ((hb3.cell (p := ⟨W.heap.size, 1, none⟩) hsz).trans n1) (Nat.lt_of_lt_of_le hsz hb3.size) hcall mv (lampF cl lm i) hL3.lm (by omega) (by omega) _ a3 (h3.sub (by simp +contextual)) ?_
      intro a4 w4 V' hA h4
      have hL4 := hL3.lamp (by omega) hA
      rw [← hup] at hL4
      exact hin3 a4 _ _ (h4.sub (by simp)) hL4
    | false =>
      rw [if_neg (by rw [hcc]; simp)] at hup
      rw [← hup] at hL3
      exact wpIn_skip (hin3 a3 W3 mv (h3.sub (by simp)) hL3)
  · rw [decide_eq_false hlt]
    refine wpIn_exit ?_
    have hie : i = N := by omega
    rw [hie] at hL
    exact hQ a1 W mv (h1.sub (by simp)) hL
end
end Go.Proofs.Ytmgiabehooghcaa
namespace Go.Proofs.Ytmgiabehooghcaa
open Go.RowKit Go.Shelf
attribute [local go_sem] Oper.semAt_some

def prow (A B : List Nat) (i j : Nat) : Nat := if j / 2 < i then (if j % 2 = 0 then A.getD (j / 2) 0 else B.getD (j / 2) 0) else 0
def pairsV (A B : List Nat) (N i : Nat) : Array Value := ((List.range (N * 2)).map fun j => Value.int .u8 (prow A B i j : Nat)).toArray
theorem pairsV_size (A B : List Nat) (N i : Nat) : (pairsV A B N i).size = N * 2 := by simp [pairsV]
theorem pairsV_get (A B : List Nat) (N i j : Nat) (hj : j < N * 2) : (pairsV A B N i)[j]? = some (.int .u8 (prow A B i j : Nat)) := by
  unfold pairsV
  simp [hj]
theorem pairsV_set (A B : List Nat) (N i : Nat) (hi : i < N) : ((pairsV A B N i).setIfInBounds (i * 2) (.int .u8 (A.getD i 0 : Nat))).setIfInBounds (i * 2 + 1) (.int .u8 (B.getD i 0 : Nat)) = pairsV A B N (i + 1) := by
  apply Array.ext_getElem?
  intro j
  rcases Nat.lt_or_ge j (N * 2) with hj | hj
  · rw [pairsV_get _ _ _ _ _ hj, Array.getElem?_setIfInBounds, Array.getElem?_setIfInBounds]
    by_cases e1 : i * 2 + 1 = j
    · rw [if_pos e1, if_pos (by simp [pairsV_size]; omega)]
      unfold prow
      rw [if_pos (by omega), if_neg (by omega), show j / 2 = i from by omega]
    · rw [if_neg e1]
      by_cases e2 : i * 2 = j
      · rw [if_pos e2, if_pos (by simp [pairsV_size]; omega)]
        unfold prow
        rw [if_pos (by omega), if_pos (by omega), show j / 2 = i from by omega]
      · rw [if_neg e2, pairsV_get _ _ _ _ _ hj]
        unfold prow
        by_cases e3 : j / 2 < i
        · simp only [if_pos e3, if_pos (show j / 2 < i + 1 by omega)]
        · simp only [if_neg e3, if_neg (show ¬ j / 2 < i + 1 by omega)]
  · rw [Array.getElem?_eq_none (by simp [pairsV_size]; omega), Array.getElem?_eq_none (by simp [pairsV_size]; omega)]
theorem made_pairs (A B : List Nat) (N : Nat) : madeCells #[Value.int .u8 0, .int .u8 0] (N * 2) = pairsV A B N 0 := by
  apply Array.ext_getElem?
  intro j
  rcases Nat.lt_or_ge j (N * 2) with hj | hj
  · rw [pairsV_get _ _ _ _ _ hj]
    have h2 : j % 2 = 0 ∨ j % 2 = 1 := by omega
    unfold prow
    rw [if_neg (by omega)]
    rcases h2 with h2 | h2 <;> simp [madeCells, hj, h2]
  · rw [Array.getElem?_eq_none (by simp [madeCells]; omega), Array.getElem?_eq_none (by simp [pairsV_size]; omega)]
structure Ld (w0 : World) (r1 r2 r3 N : Nat) (A B : List Nat) (i : Nat) (W : World) : Prop where
  os : W.os = w0.os
  tape : W.tape = w0.tape
  output : W.output = w0.output
  size : w0.heap.size ≤ W.heap.size
  old : ∀ k, k < w0.heap.size → W.heap[k]? = w0.heap[k]?
  h1 : W.heap[r1]? = some (.cells (bytesV A).toArray 5 (0, 0))
  h2 : W.heap[r2]? = some (.cells (bytesV B).toArray 5 (0, 0))
  h3 : W.heap[r3]? = some (.cells (pairsV A B N i) 37 (0, 0))
  n3 : w0.heap.size ≤ r3
abbrev A93 (r1 r2 r3 N i : Nat) : List (Nat × Value) := [(12, .slice (some ⟨r1, 0, none⟩) N N), (13, .slice (some ⟨r2, 0, none⟩) N N), (14, .slice (some ⟨r3, 0, none⟩) N N), (92, .int .i64 N), (93, .int .i64 i)]
section
variable {w0 : World} {r1 r2 r3 N : Nat} {A B : List Nat}
theorem cells_ty {c d : Array Value} {t u : TypeId} {f f' : Nat × Nat} (h : Obj.cells c t f = Obj.cells d u f') : t = u := by injection h
theorem bytes_cell {W : World} {r i : Nat} {A : List Nat} (h : W.heap[r]? = some (.cells (bytesV A).toArray 5 (0, 0))) (hi : i < A.length) : W.cell? ⟨r, i, none⟩ = some (.int .u8 (A.getD i 0 : Nat)) := by
  simp only [World.cell?, h, bytesV]
  simp [List.getD_eq_getElem?_getD, hi]
theorem Ld.next {i : Nat} {W : World} (h : Ld w0 r1 r2 r3 N A B i W) (hi : i < N) : Ld w0 r1 r2 r3 N A B (i + 1) ((W.drew.setCell ⟨r3, i * 2, none⟩ (.int .u8 (A.getD i 0 : Nat))).setCell ⟨r3, i * 2 + 1, none⟩ (.int .u8 (B.getD i 0 : Nat))) := by
  have hk : ∀ k, k ≠ r3 → ((W.drew.setCell ⟨r3, i * 2, none⟩ (.int .u8 (A.getD i 0 : Nat))).setCell ⟨r3, i * 2 + 1, none⟩ (.int .u8 (B.getD i 0 : Nat))).heap[k]? = W.heap[k]? := fun k hk =>
    (Below.heap_setCell _ _ _ k hk).trans (Below.heap_setCell _ _ _ k hk)
  have hs : ((W.drew.setCell ⟨r3, i * 2, none⟩ (.int .u8 (A.getD i 0 : Nat))).setCell ⟨r3, i * 2 + 1, none⟩ (.int .u8 (B.getD i 0 : Nat))).heap.size = W.heap.size := by
    simp only [World.setCell, Array.size_modify]; rfl
  refine ⟨h.os, h.tape, h.output, by rw [hs]; exact h.size, fun k hk' => (hk k (by have := h.n3; omega)).trans (h.old k hk'), (hk _ (heap_ne_of h.h1 h.h3 (fun e => absurd (cells_ty e) (by decide)))).trans h.h1, (hk _ (heap_ne_of h.h2 h.h3 (fun e => absurd (cells_ty e) (by decide)))).trans h.h2, ?_, h.n3⟩
  have e1 := setCell_heap_same (W := W.drew) (b := r3) (m := i * 2) h.h3 (.int .u8 (A.getD i 0 : Nat))
  have e2 := setCell_heap_same (m := i * 2 + 1) e1 (.int .u8 (B.getD i 0 : Nat))
  rw [e2, pairsV_set A B N i hi]
theorem pairs_in (n : Nat) (hN : N ≤ 262144) (hA : A.length = N) (hB : B.length = N) (W : World) (hL : Ld w0 r1 r2 r3 N A B 0 W) (a : Act) (ha : SR (A93 r1 r2 r3 N 0) 110 [] W a W) (Q : Exit → Act → World → Prop)
    (hQ : ∀ a' W', SR [(14, .slice (some ⟨r3, 0, none⟩) N N)] 110 [] W' a' W' → Ld w0 r1 r2 r3 N A B N W' → Q .normal a' W') : (Code.block 6 (.loop LpD)).wpIn Fence.wide n Try.prog Q a W := by
  refine wpIn_block (wpIn_loop (fun a W => ∃ i, i ≤ N ∧ SR (A93 r1 r2 r3 N i) 110 [] W a W ∧ Ld w0 r1 r2 r3 N A B i W) (fun a _ => N - slotN 93 a) ⟨0, Nat.zero_le _, ha, hL⟩ ?_)
  rintro a W ⟨i, hin, ha, hL⟩
  have e93 := slotN_of ha (t := 93) (v := i) (k := .i64) (by simp)
  unfold LpD
  refine wpIn_seq (l23 n W r1 r2 r3 N i _ a ha ?_)
  intro a1 h1
  refine wpIn_seq (wpIn_cond (t := decide (i < N)) (by rw [eval_tmp]; exact h1.kn (94, _) (by simp)) ?_)
  by_cases hlt : i < N
  · rw [decide_eq_true hlt]
    refine wpIn_skip (wpIn_seq (wpIn_block (wpIn_seq ?_)))
    refine l24 n W r1 r2 r3 N i _ a1 (h1.sub (by simp +contextual)) ?_
    intro a2 h2
    have hg := fun j (hj : j < N * 2) => pairsV_get A B N i j hj
    have c0 : W.cell? ⟨r3, i * 2, none⟩ = some (.int .u8 (prow A B i (i * 2) : Nat)) := by simp only [World.cell?, hL.h3]; exact hg _ (by omega)
    have c1 : W.cell? ⟨r3, i * 2 + 1, none⟩ = some (.int .u8 (prow A B i (i * 2 + 1) : Nat)) := by simp only [World.cell?, hL.h3]; exact hg _ (by omega)
    have f : ∀ j, W.frozen? ⟨r3, j, none⟩ = false := fun j => by simp [World.frozen?, hL.h3]
    refine l25 n W r1 r2 r3 N i (A.getD i 0) (B.getD i 0) _ _ hlt (bytes_cell hL.h1 (by omega)) (bytes_cell hL.h2 (by omega)) c0 c1 (f _) (f _) _ a2 h2 ?_
    intro a3 h3
    have hL3 := hL.next hlt
    generalize (W.drew.setCell ⟨r3, i * 2, none⟩ (.int .u8 (A.getD i 0 : Nat))).setCell ⟨r3, i * 2 + 1, none⟩ (.int .u8 (B.getD i 0 : Nat)) = W3 at h3 hL3 ⊢
    show (regOf 26 C14).wpIn _ _ _ _ _ _
    refine l26 n W3 r1 r2 r3 N i (by omega) _ a3 (h3.sub (by simp)) ?_
    intro a4 h4
    have h4' : SR (A93 r1 r2 r3 N (i + 1)) 110 [] W3 a4 W3 := h4
    exact ⟨⟨i + 1, hlt, h4', hL3⟩, by rw [e93, slotN_of h4' (t := 93) (v := i + 1) (k := .i64) (by simp)]; omega⟩
  · rw [decide_eq_false hlt]
    refine wpIn_exit ?_
    have hie : i = N := by omega
    rw [hie] at hL
    exact hQ a1 W (h1.sub (by simp)) hL
end
end Go.Proofs.Ytmgiabehooghcaa
namespace Go.Proofs.Ytmgiabehooghcaa
open Go.RowKit Go.Shelf
attribute [local go_sem] Oper.semAt_some

theorem arr16 (f : Nat → Value) : ∀ m, m < 16 → (#[f 0, f 1, f 2, f 3, f 4, f 5, f 6, f 7, f 8, f 9, f 10, f 11, f 12, f 13, f 14, f 15] : Array Value)[m]? = some (f m)
  | 0, _ => rfl
  | 1, _ => rfl
  | 2, _ => rfl
  | 3, _ => rfl
  | 4, _ => rfl
  | 5, _ => rfl
  | 6, _ => rfl
  | 7, _ => rfl
  | 8, _ => rfl
  | 9, _ => rfl
  | 10, _ => rfl
  | 11, _ => rfl
  | 12, _ => rfl
  | 13, _ => rfl
  | 14, _ => rfl
  | 15, _ => rfl
  | m + 16, h => by omega
structure Lg (w0 : World) (bB sB mB : Nat) (X Y Z : Int) (N g off cap : Nat) (sv mv : Nat → Value) (M : Nat → List Nat) (A : List Nat) (r : Nat) (W : World) : Prop where
  os : W.os = w0.os
  tape : W.tape = w0.tape
  output : W.output = w0.output
  size : w0.heap.size ≤ W.heap.size
  old : ∀ k, k < w0.heap.size → W.heap[k]? = w0.heap[k]?
  bx : W.heap[bB]? = some (.cells #[.int .i64 X, .int .i64 Y, .int .i64 Z, .slice (some ⟨g, off, none⟩) N cap] 24 (0, 0))
  sk : ∃ cur : Array Value, W.heap[sB]? = some (.cells cur 53 (0, 0)) ∧ ∀ m, m < 16 → cur[m]? = some (sv m)
  lm : Lists W mB mv M
  gm : ∀ m, m < 16 → ∀ k, (mv m).ownBlock = some k → w0.heap.size ≤ k
  nb : w0.heap.size ≤ bB
  row : W.heap[r]? = some (.cells (bytesV A).toArray 5 (0, 0))
  nr : w0.heap.size ≤ r
structure Lh (w0 : World) (bB : Nat) (X Y Z : Int) (N g off cap : Nat) (A B : List Nat) (r s : Nat) (W : World) : Prop where
  os : W.os = w0.os
  tape : W.tape = w0.tape
  output : W.output = w0.output
  size : w0.heap.size ≤ W.heap.size
  old : ∀ k, k < w0.heap.size → W.heap[k]? = w0.heap[k]?
  bx : W.heap[bB]? = some (.cells #[.int .i64 X, .int .i64 Y, .int .i64 Z, .slice (some ⟨g, off, none⟩) N cap] 24 (0, 0))
  row : W.heap[r]? = some (.cells (bytesV A).toArray 5 (0, 0))
  row2 : W.heap[s]? = some (.cells (bytesV B).toArray 5 (0, 0))
section
variable {w0 : World} {X Y Z N g off cap : Nat} {K V : Nat → Nat} {cl : Nat → Bool}
theorem Cells.at {W : World} (hc : Cells w0 (fun _ => False) N g off K V cl) (hs : w0.heap.size ≤ W.heap.size) (ho : ∀ k, k < w0.heap.size → W.heap[k]? = w0.heap[k]?) {Dm : Nat → Prop} (hd : ∀ k, Dm k → w0.heap.size ≤ k) : Cells W Dm N g off K V cl :=
  ⟨hc.n, Nat.lt_of_lt_of_le hc.lt hs, fun h => by have := hd g h; have := hc.lt; omega, fun s h => (cell_of_heap (ho g hc.lt) _).trans (hc.kind s h), fun s h => (cell_of_heap (ho g hc.lt) _).trans (hc.level s h), hc.clear⟩
def skyL (X Y Z : Nat) (cl : Nat → Bool) : List Nat := Glow.spreadF (Glow.sides X Y Z) cl (upd (fun _ => []) 15 (skyF cl (X * Z) Y (X * Z))) 15 (List.replicate (X * Y * Z) 0) (upd (fun _ => []) 15 (skyF cl (X * Z) Y (X * Z)) 15)
def lampL (X Y Z : Nat) (cl : Nat → Bool) (lm : Nat → Nat) : List Nat := Glow.spreadF (Glow.sides X Y Z) cl (lampF cl lm (X * Y * Z)) 15 (List.replicate (X * Y * Z) 0) (lampF cl lm (X * Y * Z) 15)
theorem sky_ok (hYl : N = Y * (X * Z)) : ∀ m, m < 16 → (upd (fun _ => ([] : List Nat)) 15 (skyF cl (X * Z) Y (X * Z)) m).length ≤ N ∧ ∀ s ∈ upd (fun _ => ([] : List Nat)) 15 (skyF cl (X * Z) Y (X * Z)) m, s < N := by
  intro m hm
  by_cases e : m = 15
  · subst e
    rw [upd_same]
    refine ⟨by have h1 := skyF_len cl (X * Z) Y (X * Z); have h2 : X * Z * Y = Y * (X * Z) := Nat.mul_comm _ _; omega, fun s hs => ?_⟩
    unfold skyF at hs
    obtain ⟨c, hc, hs⟩ := List.mem_flatMap.1 hs
    obtain ⟨y, h1, rfl, _⟩ := colF_mem hs
    rw [hYl]
    exact idx_lt h1 (by simpa using hc)
  · rw [upd_ne _ _ e]; exact ⟨Nat.zero_le _, fun s hs => by cases hs⟩
theorem lamp_ok (lm : Nat → Nat) : ∀ m, m < 16 → (lampF cl lm N m).length ≤ N ∧ ∀ s ∈ lampF cl lm N m, s < N := fun m _ =>
  ⟨lampF_len cl lm N m, fun s hs => by unfold lampF at hs; simpa using (List.mem_filter.1 hs).1⟩
theorem spread1 (hc : Cells w0 (fun _ => False) N g off K V cl) (hNe : N = X * Y * Z) (hX : X ≤ 256) (hY : Y ≤ 256) (hZ : Z ≤ 256) {bB sB mB : Nat} {sv mv : Nat → Value} {S M : Nat → List Nat} (hSo : ∀ m, m < 16 → (S m).length ≤ N ∧ ∀ s ∈ S m, s < N)
    (m : Nat) (w : World) (hL : Li w0 bB sB mB (X : Int) Y Z N g off cap sv mv S M w) :
    CallsIn Fence.wide m Try.prog 26 #[.agg #[.int .i64 X, .int .i64 Y, .int .i64 Z, .slice (some ⟨g, off, none⟩) N cap], .agg #[sv 0, sv 1, sv 2, sv 3, sv 4, sv 5, sv 6, sv 7, sv 8, sv 9, sv 10, sv 11, sv 12, sv 13, sv 14, sv 15]] w fun e w' => ∃ r, e = .returned (.slice (some ⟨r, 0, none⟩) N N) ∧
      Lg w0 bB sB mB (X : Int) Y Z N g off cap sv mv M (Glow.spreadF (Glow.sides X Y Z) cl S 15 (List.replicate N 0) (S 15)) r w' := by
  have hd : ∀ k, (∃ m, m < 16 ∧ (sv m).ownBlock = some k) → w0.heap.size ≤ k := fun k ⟨m, hm, h⟩ => hL.gs m hm k h
  refine callsIn_wide.2 (callsIn_wide.1 ((spread_in 6 (Nat.le_refl _) (hc.at hL.size hL.old (Dm := fun k => ∃ m, m < 16 ∧ (sv m).ownBlock = some k) hd) hNe hX hY hZ S hSo sv #[sv 0, sv 1, sv 2, sv 3, sv 4, sv 5, sv 6, sv 7, sv 8, sv 9, sv 10, sv 11, sv 12, sv 13, sv 14, sv 15] rfl (arr16 sv) hL.sk.rows hL.sk.apart (fun m hm k h => ⟨m, hm, h⟩)).mono ?_))
  rintro e w' ⟨r, rfl, h1, h2, h3, h4, h5, h6, h7⟩
  obtain ⟨c1, k1, _, k3⟩ := hL.sk.blk
  obtain ⟨c2, k4, _⟩ := hL.lm.blk
  have hlt : ∀ {k o}, w.heap[k]? = some o → k < w.heap.size := fun hk => (Array.getElem?_eq_some_iff.1 hk).1
  have hno : ∀ {k cs t}, w.heap[k]? = some (Obj.cells cs t (0, 0)) → t ≠ 3 → w'.heap[k]? = w.heap[k]? := fun hb ht => h7 _ (hlt hb) (fun ⟨m, hm, e⟩ => own_ne_t hL.sk hm e hb ht rfl)
  exact ⟨r, rfl, { os := h3.trans hL.os, tape := h4.trans hL.tape, output := h5.trans hL.output, size := Nat.le_trans hL.size h6, old := fun k hk => (h7 k (Nat.lt_of_lt_of_le hk hL.size) (fun h => by have := hd k h; omega)).trans (hL.old k hk)
                   bx := (hno hL.bx (by decide)).trans hL.bx, sk := ⟨c1, (hno k1 (by decide)).trans k1, k3⟩
                   lm := hL.lm.same (hno k4 (by decide)) (fun j hj k hk => h7 k (hL.lm.own_lt hj hk) (fun ⟨m, hm, e⟩ => hL.cross m j hm hj k e hk))
                   gm := hL.gm, nb := hL.nb, row := h2, nr := Nat.le_trans hL.size h1 }⟩
theorem spread2 (hc : Cells w0 (fun _ => False) N g off K V cl) (hNe : N = X * Y * Z) (hX : X ≤ 256) (hY : Y ≤ 256) (hZ : Z ≤ 256) {bB sB mB : Nat} {sv mv : Nat → Value} {M : Nat → List Nat} {A : List Nat} (hMo : ∀ m, m < 16 → (M m).length ≤ N ∧ ∀ s ∈ M m, s < N)
    (m r : Nat) (w : World) (hL : Lg w0 bB sB mB (X : Int) Y Z N g off cap sv mv M A r w) :
    CallsIn Fence.wide m Try.prog 26 #[.agg #[.int .i64 X, .int .i64 Y, .int .i64 Z, .slice (some ⟨g, off, none⟩) N cap], .agg #[mv 0, mv 1, mv 2, mv 3, mv 4, mv 5, mv 6, mv 7, mv 8, mv 9, mv 10, mv 11, mv 12, mv 13, mv 14, mv 15]] w fun e w' => ∃ s, e = .returned (.slice (some ⟨s, 0, none⟩) N N) ∧
      Lh w0 bB (X : Int) Y Z N g off cap A (Glow.spreadF (Glow.sides X Y Z) cl M 15 (List.replicate N 0) (M 15)) r s w' := by
  have hd : ∀ k, (∃ m, m < 16 ∧ (mv m).ownBlock = some k) → w0.heap.size ≤ k := fun k ⟨m, hm, h⟩ => hL.gm m hm k h
  refine callsIn_wide.2 (callsIn_wide.1 ((spread_in 6 (Nat.le_refl _) (hc.at hL.size hL.old (Dm := fun k => ∃ m, m < 16 ∧ (mv m).ownBlock = some k) hd) hNe hX hY hZ M hMo mv #[mv 0, mv 1, mv 2, mv 3, mv 4, mv 5, mv 6, mv 7, mv 8, mv 9, mv 10, mv 11, mv 12, mv 13, mv 14, mv 15] rfl (arr16 mv) hL.lm.rows hL.lm.apart (fun m hm k h => ⟨m, hm, h⟩)).mono ?_))
  rintro e w' ⟨s, rfl, h1, h2, h3, h4, h5, h6, h7⟩
  have hlt : ∀ {k o}, w.heap[k]? = some o → k < w.heap.size := fun hk => (Array.getElem?_eq_some_iff.1 hk).1
  have hno : ∀ {k cs t}, w.heap[k]? = some (Obj.cells cs t (0, 0)) → t ≠ 3 → w'.heap[k]? = w.heap[k]? := fun hb ht => h7 _ (hlt hb) (fun ⟨m, hm, e⟩ => own_ne_t hL.lm hm e hb ht rfl)
  exact ⟨s, rfl, { os := h3.trans hL.os, tape := h4.trans hL.tape, output := h5.trans hL.output, size := Nat.le_trans hL.size h6, old := fun k hk => (h7 k (Nat.lt_of_lt_of_le hk hL.size) (fun h => by have := hd k h; omega)).trans (hL.old k hk)
                   bx := (hno hL.bx (by decide)).trans hL.bx, row := (hno hL.row (by decide)).trans hL.row, row2 := h2 }⟩
end
end Go.Proofs.Ytmgiabehooghcaa
