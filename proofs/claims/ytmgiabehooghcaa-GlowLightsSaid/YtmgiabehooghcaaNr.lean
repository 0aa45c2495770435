/- Glow: the walk of a law. -/
import Derived.RangeFuncNested
import Derived.RangeFuncBound
import Derived.RangeFuncCalls
import Derived.RangeFuncLeaves
import Derived.Shelf.Abstract
import Derived.Shelf.RegionOpen
import Derived.WalkKit
import Derived.OwnWalkIn
import Derived.TacticsInMore
import Derived.LoopNIn
import Derived.LoopIn
import Derived.Lib.Hide
import Derived.IntWalk
import Derived.Maps.AppendAt
import Derived.Test.YtmgiabehooghcaaKc
import Derived.Test.YtmgiabehooghcaaGin
import Derived.Test.YtmgiabehooghcaaNq
set_option linter.unusedVariables false
set_option linter.unusedSimpArgs false
set_option maxRecDepth 100000
set_option maxHeartbeats 4000000
namespace Go.Proofs.Ytmgiabehooghcaa
open Go.RowKit Go.Shelf
attribute [local go_sem] Oper.semAt_some

theorem lg13 (n : Nat) {G : World → Prop} (hS : Stable G) (B r1 r2 N i s l base m : Nat) (q : Value) (xs : List Value) (hi' : i < N) (hs15 : s ≤ 15) (hl15 : l ≤ 15) (hm : m ≤ 1000000)
    (c1 : CE G r1 i ((ii s))) (c2 : CE G r2 i ((ii l))) (hown : ∀ w, G w → w.ownsRow base 37 2 q m xs) (hbs : ∀ w, G w → base ≤ w.heap.size)
    (G2 : Value → World → Prop) (hap : ∀ w w' q', G w → w'.ownsRow base 37 2 q' (m + 1) (xs ++ [.int .u8 s, .int .u8 l]) → w.grownBy w' q.ownBlock → G2 q' w') (Q : Po) (a : Act) (w : World) (h0 : SG [(1, pt B 0), (6, sl r1 N N), (7, sl r2 N N), (9, ii i), (8, q)] 61 G a w)
    (hQ : ∀ q' a w, SG [(1, pt B 0), (6, sl r1 N N), (7, sl r2 N N), (8, q'), (9, ii i)] 61 (G2 q') a w → Q .normal a w) : (regOf 13 C15).wpIn Fence.wide n Try.prog Q a w := by
  have hmix : Try.prog.follows .mixedOrders = true := by kernel_rfl
  obtain ⟨i0, hi, hz0, hz1, hz2⟩ := info_parts info37
  obtain ⟨hs, hhs⟩ : ∃ hs, hs = w.heap.size := ⟨_, rfl⟩
  simp only [regOf, C15, Try.f15, Option.getD, Nat.reduceBEq, Bool.false_eq_true, if_true, if_false]
  refine region_inv (SomeV fun q' Xs a w => (Xs 14 = false → a.tmps[8]?.getD undef = q) ∧ RI [(1, pt B 0), (6, sl r1 N N), (7, sl r2 N N), (9, ii i)]
    [(0, 46, q), (1, 47, sl r1 N N), (2, 48, ii i), (3, 49, pt r1 i), (4, 50, ii s), (5, 51, .int .u8 s), (6, 52, sl r2 N N), (7, 53, ii i), (8, 54, pt r2 i), (9, 55, ii l), (10, 56, .int .u8 l), (11, 57, .agg #[.int .u8 s, .int .u8 l]), (12, 58, sl hs 1 1), (13, 59, q'), (14, 8, q')] 61 [] (fun Xs w => (Xs 12 = false → G w ∧ w.heap.size = hs) ∧ (Xs 12 = true → Xs 13 = false → (G w ∧ w.cell? ⟨hs, 0, none⟩ = some (.int .u8 s) ∧ w.cell? ⟨hs, 1, none⟩ = some (.int .u8 l))) ∧ (Xs 13 = true → G2 q' w)) Xs a w) hmix (by kernel_rfl) ⟨q, fun _ => h0.g 8 rfl, h0.size, h0.defers, (h0.sub (by simp)).kn, by simp, ⟨fun _ => ⟨hS _ _ h0.wp (Below.refl _ _).drew, hhs.symm⟩, ⟨fun h => (by cases h), fun h => (by cases h)⟩⟩⟩ ⟨?_, ?_, ?_, ?_, ?_, ?_, ?_, ?_, ?_, ?_, ?_, ?_, ?_, ?_, ?_, trivial⟩ ?_
  · rintro Xs a w hX hdep hC ⟨q', h8, hI⟩
    clear hhs
    have n13 : Xs 13 = false := by
      cases y13 : Xs 13 with
      | false => rfl
      | true =>
        have y0 := hC 13 _ rfl y13 ⟨0, .data⟩ (by simp) rfl
        rw [hX] at y0; cases y0
    have n14 : Xs 14 = false := by
      cases y : Xs 14 with
      | false => rfl
      | true => have y2 := hC 14 _ rfl y ⟨13, .data⟩ (by simp) rfl; rw [n13] at y2; cases y2
    have e8 := h8 n14
    clear h8
    go_simp
    exact ⟨q', fun _ => by simp [e8], hI.put' (k := 0) (d := 46) (by decide) (by simp) (by simp) (by simp) ⟨fun h => hI.wp.1 (by simpa [addX] using h), fun h _ => hI.wp.2.1 (by simpa [addX] using h) n13, fun h => by simp [addX, n13] at h⟩⟩
  · rintro Xs a w hX hdep hC ⟨q', h8, hI⟩
    clear hhs
    have n12 : Xs 12 = false := by
      cases y12 : Xs 12 with
      | false => rfl
      | true =>
        have y11 := hC 12 _ rfl y12 ⟨11, .data⟩ (by simp) rfl
        have y5 := hC 11 _ rfl y11 ⟨5, .data⟩ (by simp) rfl
        have y4 := hC 5 _ rfl y5 ⟨4, .data⟩ (by simp) rfl
        have y3 := hC 4 _ rfl y4 ⟨3, .data⟩ (by simp) rfl
        have y1 := hC 3 _ rfl y3 ⟨1, .data⟩ (by simp) rfl
        rw [hX] at y1; cases y1
    have n13 : Xs 13 = false := by
      cases y : Xs 13 with
      | false => rfl
      | true => have y2 := hC 13 _ rfl y ⟨12, .data⟩ (by simp) rfl; rw [n12] at y2; cases y2
    have n14 : Xs 14 = false := by
      cases y : Xs 14 with
      | false => rfl
      | true => have y2 := hC 14 _ rfl y ⟨13, .data⟩ (by simp) rfl; rw [n13] at y2; cases y2
    have e8 := h8 n14
    obtain ⟨hg, hz⟩ := hI.wp.1 n12
    have e6 := hI.gi 6 rfl
    clear h8
    go_simp
    exact ⟨q', fun _ => by simp [e8], hI.put' (k := 1) (d := 47) (by decide) (by simp) (by simp) (by simp) ⟨fun _ => ⟨hg, hz⟩, fun h => by simp [addX, n12] at h, fun h => by simp [addX, n13] at h⟩⟩
  · rintro Xs a w hX hdep hC ⟨q', h8, hI⟩
    clear hhs
    have n12 : Xs 12 = false := by
      cases y12 : Xs 12 with
      | false => rfl
      | true =>
        have y11 := hC 12 _ rfl y12 ⟨11, .data⟩ (by simp) rfl
        have y5 := hC 11 _ rfl y11 ⟨5, .data⟩ (by simp) rfl
        have y4 := hC 5 _ rfl y5 ⟨4, .data⟩ (by simp) rfl
        have y3 := hC 4 _ rfl y4 ⟨3, .data⟩ (by simp) rfl
        have y2 := hC 3 _ rfl y3 ⟨2, .data⟩ (by simp) rfl
        rw [hX] at y2; cases y2
    have n13 : Xs 13 = false := by
      cases y : Xs 13 with
      | false => rfl
      | true => have y2 := hC 13 _ rfl y ⟨12, .data⟩ (by simp) rfl; rw [n12] at y2; cases y2
    have n14 : Xs 14 = false := by
      cases y : Xs 14 with
      | false => rfl
      | true => have y2 := hC 14 _ rfl y ⟨13, .data⟩ (by simp) rfl; rw [n13] at y2; cases y2
    have e8 := h8 n14
    obtain ⟨hg, hz⟩ := hI.wp.1 n12
    have e9 := hI.gi 9 rfl
    clear h8
    go_simp
    exact ⟨q', fun _ => by simp [e8], hI.put' (k := 2) (d := 48) (by decide) (by simp) (by simp) (by simp) ⟨fun _ => ⟨hg, hz⟩, fun h => by simp [addX, n12] at h, fun h => by simp [addX, n13] at h⟩⟩
  · rintro Xs a w hX hdep hC ⟨q', h8, hI⟩
    clear hhs
    have n12 : Xs 12 = false := by
      cases y12 : Xs 12 with
      | false => rfl
      | true =>
        have y11 := hC 12 _ rfl y12 ⟨11, .data⟩ (by simp) rfl
        have y5 := hC 11 _ rfl y11 ⟨5, .data⟩ (by simp) rfl
        have y4 := hC 5 _ rfl y5 ⟨4, .data⟩ (by simp) rfl
        have y3 := hC 4 _ rfl y4 ⟨3, .data⟩ (by simp) rfl
        rw [hX] at y3; cases y3
    have n13 : Xs 13 = false := by
      cases y : Xs 13 with
      | false => rfl
      | true => have y2 := hC 13 _ rfl y ⟨12, .data⟩ (by simp) rfl; rw [n12] at y2; cases y2
    have n14 : Xs 14 = false := by
      cases y : Xs 14 with
      | false => rfl
      | true => have y2 := hC 14 _ rfl y ⟨13, .data⟩ (by simp) rfl; rw [n13] at y2; cases y2
    have e8 := h8 n14
    obtain ⟨hg, hz⟩ := hI.wp.1 n12
    have e47 := hI.gk 1 rfl (hdep ⟨1, .data⟩ (by simp) rfl); have e48 := hI.gk 2 rfl (hdep ⟨2, .data⟩ (by simp) rfl)
    have q1_3 : (0 : Int) ≤ i := by omega
    have q2_3 : (i : Int) < N := by omega
    clear h8
    go_simp
    exact ⟨q', fun _ => by simp [e8], hI.put' (k := 3) (d := 49) (by decide) (by simp) (by simp) (by simp) ⟨fun _ => ⟨hg, hz⟩, fun h => by simp [addX, n12] at h, fun h => by simp [addX, n13] at h⟩⟩
  · rintro Xs a w hX hdep hC ⟨q', h8, hI⟩
    clear hhs
    have n12 : Xs 12 = false := by
      cases y12 : Xs 12 with
      | false => rfl
      | true =>
        have y11 := hC 12 _ rfl y12 ⟨11, .data⟩ (by simp) rfl
        have y5 := hC 11 _ rfl y11 ⟨5, .data⟩ (by simp) rfl
        have y4 := hC 5 _ rfl y5 ⟨4, .data⟩ (by simp) rfl
        rw [hX] at y4; cases y4
    have n13 : Xs 13 = false := by
      cases y : Xs 13 with
      | false => rfl
      | true => have y2 := hC 13 _ rfl y ⟨12, .data⟩ (by simp) rfl; rw [n12] at y2; cases y2
    have n14 : Xs 14 = false := by
      cases y : Xs 14 with
      | false => rfl
      | true => have y2 := hC 14 _ rfl y ⟨13, .data⟩ (by simp) rfl; rw [n13] at y2; cases y2
    have e8 := h8 n14
    obtain ⟨hg, hz⟩ := hI.wp.1 n12
    have e49 := hI.gk 3 rfl (hdep ⟨3, .data⟩ (by simp) rfl); have cc0 := c1 w hg
    clear h8
    go_simp
    exact ⟨q', fun _ => by simp [e8], hI.put' (k := 4) (d := 50) (by decide) (by simp) (by simp) (by simp) ⟨fun _ => ⟨hg, hz⟩, fun h => by simp [addX, n12] at h, fun h => by simp [addX, n13] at h⟩⟩
  · rintro Xs a w hX hdep hC ⟨q', h8, hI⟩
    clear hhs
    have n12 : Xs 12 = false := by
      cases y12 : Xs 12 with
      | false => rfl
      | true =>
        have y11 := hC 12 _ rfl y12 ⟨11, .data⟩ (by simp) rfl
        have y5 := hC 11 _ rfl y11 ⟨5, .data⟩ (by simp) rfl
        rw [hX] at y5; cases y5
    have n13 : Xs 13 = false := by
      cases y : Xs 13 with
      | false => rfl
      | true => have y2 := hC 13 _ rfl y ⟨12, .data⟩ (by simp) rfl; rw [n12] at y2; cases y2
    have n14 : Xs 14 = false := by
      cases y : Xs 14 with
      | false => rfl
      | true => have y2 := hC 14 _ rfl y ⟨13, .data⟩ (by simp) rfl; rw [n13] at y2; cases y2
    have e8 := h8 n14
    obtain ⟨hg, hz⟩ := hI.wp.1 n12
    have e50 := hI.gk 4 rfl (hdep ⟨4, .data⟩ (by simp) rfl)
    have hw1 : IntKind.u8.wrap (s : Int) = (s : Int) := IntWalk.u8_in _ (by omega)
    clear h8
    go_simp
    exact ⟨q', fun _ => by simp [e8], hI.put' (k := 5) (d := 51) (by decide) (by simp) (by simp) (by simp) ⟨fun _ => ⟨hg, hz⟩, fun h => by simp [addX, n12] at h, fun h => by simp [addX, n13] at h⟩⟩
  · rintro Xs a w hX hdep hC ⟨q', h8, hI⟩
    clear hhs
    have n12 : Xs 12 = false := by
      cases y12 : Xs 12 with
      | false => rfl
      | true =>
        have y11 := hC 12 _ rfl y12 ⟨11, .data⟩ (by simp) rfl
        have y10 := hC 11 _ rfl y11 ⟨10, .data⟩ (by simp) rfl
        have y9 := hC 10 _ rfl y10 ⟨9, .data⟩ (by simp) rfl
        have y8 := hC 9 _ rfl y9 ⟨8, .data⟩ (by simp) rfl
        have y6 := hC 8 _ rfl y8 ⟨6, .data⟩ (by simp) rfl
        rw [hX] at y6; cases y6
    have n13 : Xs 13 = false := by
      cases y : Xs 13 with
      | false => rfl
      | true => have y2 := hC 13 _ rfl y ⟨12, .data⟩ (by simp) rfl; rw [n12] at y2; cases y2
    have n14 : Xs 14 = false := by
      cases y : Xs 14 with
      | false => rfl
      | true => have y2 := hC 14 _ rfl y ⟨13, .data⟩ (by simp) rfl; rw [n13] at y2; cases y2
    have e8 := h8 n14
    obtain ⟨hg, hz⟩ := hI.wp.1 n12
    have e7 := hI.gi 7 rfl
    clear h8
    go_simp
    exact ⟨q', fun _ => by simp [e8], hI.put' (k := 6) (d := 52) (by decide) (by simp) (by simp) (by simp) ⟨fun _ => ⟨hg, hz⟩, fun h => by simp [addX, n12] at h, fun h => by simp [addX, n13] at h⟩⟩
  · rintro Xs a w hX hdep hC ⟨q', h8, hI⟩
    clear hhs
    have n12 : Xs 12 = false := by
      cases y12 : Xs 12 with
      | false => rfl
      | true =>
        have y11 := hC 12 _ rfl y12 ⟨11, .data⟩ (by simp) rfl
        have y10 := hC 11 _ rfl y11 ⟨10, .data⟩ (by simp) rfl
        have y9 := hC 10 _ rfl y10 ⟨9, .data⟩ (by simp) rfl
        have y8 := hC 9 _ rfl y9 ⟨8, .data⟩ (by simp) rfl
        have y7 := hC 8 _ rfl y8 ⟨7, .data⟩ (by simp) rfl
        rw [hX] at y7; cases y7
    have n13 : Xs 13 = false := by
      cases y : Xs 13 with
      | false => rfl
      | true => have y2 := hC 13 _ rfl y ⟨12, .data⟩ (by simp) rfl; rw [n12] at y2; cases y2
    have n14 : Xs 14 = false := by
      cases y : Xs 14 with
      | false => rfl
      | true => have y2 := hC 14 _ rfl y ⟨13, .data⟩ (by simp) rfl; rw [n13] at y2; cases y2
    have e8 := h8 n14
    obtain ⟨hg, hz⟩ := hI.wp.1 n12
    have e9 := hI.gi 9 rfl
    clear h8
    go_simp
    exact ⟨q', fun _ => by simp [e8], hI.put' (k := 7) (d := 53) (by decide) (by simp) (by simp) (by simp) ⟨fun _ => ⟨hg, hz⟩, fun h => by simp [addX, n12] at h, fun h => by simp [addX, n13] at h⟩⟩
  · rintro Xs a w hX hdep hC ⟨q', h8, hI⟩
    clear hhs
    have n12 : Xs 12 = false := by
      cases y12 : Xs 12 with
      | false => rfl
      | true =>
        have y11 := hC 12 _ rfl y12 ⟨11, .data⟩ (by simp) rfl
        have y10 := hC 11 _ rfl y11 ⟨10, .data⟩ (by simp) rfl
        have y9 := hC 10 _ rfl y10 ⟨9, .data⟩ (by simp) rfl
        have y8 := hC 9 _ rfl y9 ⟨8, .data⟩ (by simp) rfl
        rw [hX] at y8; cases y8
    have n13 : Xs 13 = false := by
      cases y : Xs 13 with
      | false => rfl
      | true => have y2 := hC 13 _ rfl y ⟨12, .data⟩ (by simp) rfl; rw [n12] at y2; cases y2
    have n14 : Xs 14 = false := by
      cases y : Xs 14 with
      | false => rfl
      | true => have y2 := hC 14 _ rfl y ⟨13, .data⟩ (by simp) rfl; rw [n13] at y2; cases y2
    have e8 := h8 n14
    obtain ⟨hg, hz⟩ := hI.wp.1 n12
    have e52 := hI.gk 6 rfl (hdep ⟨6, .data⟩ (by simp) rfl); have e53 := hI.gk 7 rfl (hdep ⟨7, .data⟩ (by simp) rfl)
    have q1_8 : (0 : Int) ≤ i := by omega
    have q2_8 : (i : Int) < N := by omega
    clear h8
    go_simp
    exact ⟨q', fun _ => by simp [e8], hI.put' (k := 8) (d := 54) (by decide) (by simp) (by simp) (by simp) ⟨fun _ => ⟨hg, hz⟩, fun h => by simp [addX, n12] at h, fun h => by simp [addX, n13] at h⟩⟩
  · rintro Xs a w hX hdep hC ⟨q', h8, hI⟩
    clear hhs
    have n12 : Xs 12 = false := by
      cases y12 : Xs 12 with
      | false => rfl
      | true =>
        have y11 := hC 12 _ rfl y12 ⟨11, .data⟩ (by simp) rfl
        have y10 := hC 11 _ rfl y11 ⟨10, .data⟩ (by simp) rfl
        have y9 := hC 10 _ rfl y10 ⟨9, .data⟩ (by simp) rfl
        rw [hX] at y9; cases y9
    have n13 : Xs 13 = false := by
      cases y : Xs 13 with
      | false => rfl
      | true => have y2 := hC 13 _ rfl y ⟨12, .data⟩ (by simp) rfl; rw [n12] at y2; cases y2
    have n14 : Xs 14 = false := by
      cases y : Xs 14 with
      | false => rfl
      | true => have y2 := hC 14 _ rfl y ⟨13, .data⟩ (by simp) rfl; rw [n13] at y2; cases y2
    have e8 := h8 n14
    obtain ⟨hg, hz⟩ := hI.wp.1 n12
    have e54 := hI.gk 8 rfl (hdep ⟨8, .data⟩ (by simp) rfl); have cc0 := c2 w hg
    clear h8
    go_simp
    exact ⟨q', fun _ => by simp [e8], hI.put' (k := 9) (d := 55) (by decide) (by simp) (by simp) (by simp) ⟨fun _ => ⟨hg, hz⟩, fun h => by simp [addX, n12] at h, fun h => by simp [addX, n13] at h⟩⟩
  · rintro Xs a w hX hdep hC ⟨q', h8, hI⟩
    clear hhs
    have n12 : Xs 12 = false := by
      cases y12 : Xs 12 with
      | false => rfl
      | true =>
        have y11 := hC 12 _ rfl y12 ⟨11, .data⟩ (by simp) rfl
        have y10 := hC 11 _ rfl y11 ⟨10, .data⟩ (by simp) rfl
        rw [hX] at y10; cases y10
    have n13 : Xs 13 = false := by
      cases y : Xs 13 with
      | false => rfl
      | true => have y2 := hC 13 _ rfl y ⟨12, .data⟩ (by simp) rfl; rw [n12] at y2; cases y2
    have n14 : Xs 14 = false := by
      cases y : Xs 14 with
      | false => rfl
      | true => have y2 := hC 14 _ rfl y ⟨13, .data⟩ (by simp) rfl; rw [n13] at y2; cases y2
    have e8 := h8 n14
    obtain ⟨hg, hz⟩ := hI.wp.1 n12
    have e55 := hI.gk 9 rfl (hdep ⟨9, .data⟩ (by simp) rfl)
    have hw1 : IntKind.u8.wrap (l : Int) = (l : Int) := IntWalk.u8_in _ (by omega)
    clear h8
    go_simp
    exact ⟨q', fun _ => by simp [e8], hI.put' (k := 10) (d := 56) (by decide) (by simp) (by simp) (by simp) ⟨fun _ => ⟨hg, hz⟩, fun h => by simp [addX, n12] at h, fun h => by simp [addX, n13] at h⟩⟩
  · rintro Xs a w hX hdep hC ⟨q', h8, hI⟩
    clear hhs
    have n12 : Xs 12 = false := by
      cases y12 : Xs 12 with
      | false => rfl
      | true =>
        have y11 := hC 12 _ rfl y12 ⟨11, .data⟩ (by simp) rfl
        rw [hX] at y11; cases y11
    have n13 : Xs 13 = false := by
      cases y : Xs 13 with
      | false => rfl
      | true => have y2 := hC 13 _ rfl y ⟨12, .data⟩ (by simp) rfl; rw [n12] at y2; cases y2
    have n14 : Xs 14 = false := by
      cases y : Xs 14 with
      | false => rfl
      | true => have y2 := hC 14 _ rfl y ⟨13, .data⟩ (by simp) rfl; rw [n13] at y2; cases y2
    have e8 := h8 n14
    obtain ⟨hg, hz⟩ := hI.wp.1 n12
    have e51 := hI.gk 5 rfl (hdep ⟨5, .data⟩ (by simp) rfl); have e56 := hI.gk 10 rfl (hdep ⟨10, .data⟩ (by simp) rfl)
    clear h8
    go_simp
    exact ⟨q', fun _ => by simp [e8], hI.put' (k := 11) (d := 57) (by decide) (by simp) (by simp) (by simp) ⟨fun _ => ⟨hg, hz⟩, fun h => by simp [addX, n12] at h, fun h => by simp [addX, n13] at h⟩⟩
  · rintro Xs a w hX hdep hC ⟨q', h8, hI⟩
    clear hhs
    have n12 := hX
    have n13 : Xs 13 = false := by
      cases y : Xs 13 with
      | false => rfl
      | true => have y2 := hC 13 _ rfl y ⟨12, .data⟩ (by simp) rfl; rw [n12] at y2; cases y2
    have n14 : Xs 14 = false := by
      cases y : Xs 14 with
      | false => rfl
      | true => have y2 := hC 14 _ rfl y ⟨13, .data⟩ (by simp) rfl; rw [n13] at y2; cases y2
    have e8 := h8 n14
    obtain ⟨hg, hz⟩ := hI.wp.1 n12
    have e57 := hI.gk 11 rfl (hdep ⟨11, .data⟩ (by simp) rfl)
    clear h8
    go_simp
    try rw [hz]
    have hn := World.alloc_heap_new w (.cells #[.int .u8 s, .int .u8 l] 37)
    rw [hz] at hn
    exact ⟨q', fun _ => by simp [e8], hI.put' (k := 12) (d := 58) (by decide) (by simp) (by simp) (by simp) ⟨fun h => by simp [addX] at h, fun _ _ => ⟨hS _ _ hg ((Below.refl _ _).alloc (Nat.le_refl _) _), by unfold World.cell?; rw [hn]; rfl, by unfold World.cell?; rw [hn]; rfl⟩, fun h => by simp [addX, n13] at h⟩⟩
  · rintro Xs a w hX hdep hC ⟨q', h8, hI⟩
    clear hhs
    have n13 := hX
    have n14 : Xs 14 = false := by
      cases y : Xs 14 with
      | false => rfl
      | true => have y2 := hC 14 _ rfl y ⟨13, .data⟩ (by simp) rfl; rw [n13] at y2; cases y2
    have e8 := h8 n14
    have e46 := hI.gk 0 rfl (hdep ⟨0, .data⟩ (by simp) rfl)
    have x12 : Xs 12 = true := hdep ⟨12, .data⟩ (by simp) rfl
    have e58 := hI.gk 12 rfl x12
    obtain ⟨hg, k0, k1⟩ := hI.wp.2.1 x12 hX
    rw [if_pos (by simp [Region.wanted])]
    refine operIn_append (.tmp 46) (.tmp 58) 28 rfl base 37 i0 (.agg #[.int .u8 0, .int .u8 0]) 2 2 under28 hi hz0 hz1 hz2 rfl (by decide) q m xs (by simpa [go_sem] using e46) (hown w hg) ⟨hs, 0, none⟩ 1 1 [.int .u8 s, .int .u8 l] (by simpa [go_sem] using e58) rfl (fun j u hj => by
        match j, hj with
        | 0, hj => simp at hj; subst hj; exact k0
        | 1, hj => simp at hj; subst hj; exact k1
        | j + 2, hj => simp at hj) (by simp [Value.oneCell']) (by unfold maxLen; omega) (by omega) (hbs w hg) ?_
    intro V2 w1 h1 h2 h3
    exact ⟨V2, fun _ => by simp [Act.put, e8], RI.putY hI (k := 13) (d := 59) (by decide) (by simp) (by simp) (by simp) (by simp [n14]) ⟨fun h => by simp [addX, x12] at h, fun _ h => by simp [addX] at h, fun _ => hap w w1 V2 hg h1 h2⟩⟩
  · rintro Xs a w hX hdep hC ⟨q', h8, hI⟩
    clear hhs
    have x13 : Xs 13 = true := hdep ⟨13, .data⟩ (by simp) rfl
    have e59 := hI.gk 13 rfl x13
    have g2 := hI.wp.2.2 x13
    have x12 : Xs 12 = true := hC 13 _ rfl x13 ⟨12, .data⟩ (by simp) rfl
    go_simp
    exact ⟨q', fun h => by simp [addX] at h, hI.put' (k := 14) (d := 8) (by decide) (by simp) (by simp) (by simp) ⟨fun h => by simp [addX, x12] at h, fun _ h => by simp [addX, x13] at h, fun _ => g2⟩⟩
  · rintro Xs a w hX ⟨q', _, hI⟩
    refine hQ q' a w ⟨hI.size, hI.defers, ?_, hI.wp.2.2 (hX 13 (by simp))⟩
    simp only [List.mem_cons, List.not_mem_nil, or_false, forall_eq_or_imp, forall_eq]
    exact ⟨hI.gi 1 rfl, hI.gi 6 rfl, hI.gi 7 rfl, hI.gk 14 rfl (hX 14 (by simp)), hI.gi 9 rfl⟩
theorem add_none (b o j : Nat) : (⟨b, o, none⟩ : Addr).add j = ⟨b, o + j, none⟩ := by
  unfold Addr.add
  split
  · rename_i h; subst h; rfl
  · rfl
theorem gl5 (n : Nat) {G : World → Prop} (B : Nat) (er : Int) (g off len cap : Nat) (c3 : CE G B 3 (.slice (some ⟨g, off, none⟩) len cap)) (news : List Value) (hnl : news.length = len * 2) (hnews : ∀ w, G w → ∀ j u, news[j]? = some u → w.cell? ⟨g, off + j, none⟩ = some u) (hone : ∀ u ∈ news, u.oneCell' = true) (hN2 : len * 2 ≤ 140737488355328) (G1 : Value → World → Prop) (hst : ∀ w w' q, G w → Below w.heap.size w w' → w'.ownsRow 0 32 2 q len news → (∀ b, q.ownBlock = some b → b = w.heap.size) → G1 q w') (Q : Po) (a : Act) (w : World) (h0 : SG [(1, pt B 0), (3, ii er), (4, .slice none 0 0)] 71 G a w)
    (hQ : ∀ q a w, SG [(1, pt B 0), (3, ii er), (4, q)] 71 (G1 q) a w → Q .normal a w) : (regOf 5 C3).wpIn Fence.wide n Try.prog Q a w := by
  obtain ⟨i0, hi, hz0, hz1, hz2⟩ := info_parts info32
  simp only [regOf, C3, Try.f3, Option.getD, Nat.reduceBEq, Bool.false_eq_true, if_true, if_false]
  refine region_sq (fun k_ a w => match k_ with | 0 => SG [(1, pt B 0), (3, ii er), (4, .slice none 0 0)] 71 G a w | 1 => SG [(1, pt B 0), (3, ii er), (20, .slice none 0 0)] 71 G a w | 2 => SG [(1, pt B 0), (3, ii er), (20, .slice none 0 0), (21, pt B 3)] 71 G a w | 3 => SG [(1, pt B 0), (3, ii er), (20, .slice none 0 0), (22, .slice (some ⟨g, off, none⟩) len cap)] 71 G a w | 4 => ∃ q, SG [(1, pt B 0), (3, ii er), (23, q)] 71 (G1 q) a w | _ => ∃ q, SG [(1, pt B 0), (3, ii er), (4, q)] 71 (G1 q) a w) h0 ⟨?_, ?_, ?_, ?_, ?_, trivial⟩ ?_
  · intro a w (hI : SG _ _ G a w); have e4 := hI.g 4 rfl; go_simp; exact hI.q 20
  · intro a w (hI : SG _ _ G a w); have e1 := hI.g 1 rfl; go_simp; exact hI.q 21
  · intro a w (hI : SG _ _ G a w); have e21 := hI.g 21 rfl; have cc0 := c3 w hI.wp; go_simp; exact hI.q 22
  · intro a w (hI : SG _ _ G a w); have e20 := hI.g 20 rfl; have e22 := hI.g 22 rfl
    rw [if_pos (by simp [Region.wanted])]
    refine operIn_append (.tmp 20) (.tmp 22) 22 rfl 0 32 i0 (.agg #[.int .u8 0, .int .u8 0]) 2 2 under22 hi hz0 hz1 hz2 rfl (by decide) (.slice none 0 0) 0 [] (by simpa [go_sem] using e20) (World.ownsRow_nil _ _ _ _) ⟨g, off, none⟩ len cap news (by simpa [go_sem] using e22) hnl (fun j u hj => by rw [add_none]; exact hnews w hI.wp j u hj) hone (by unfold maxLen; omega) (by omega) (Nat.zero_le _) ?_
    intro V2 w1 h1 h2 h3
    exact ⟨V2, hI.put (d := 23) (by decide) (by simp) (hst w w1 V2 hI.wp ((Below.refl _ _).grown h2 (Nat.le_refl _) (fun k hk => by cases hk)) (by simpa using h1) (fun b hb => by rcases h3 with h3 | h3 <;> rw [hb] at h3 <;> simp [Value.ownBlock] at h3; exact h3))⟩
  · rintro a w ⟨q, hI⟩
    have e23 := hI.g 23 rfl; go_simp
    exact ⟨q, hI.q 4⟩
  · rintro a w ⟨q, hI⟩
    exact hQ q a w hI
theorem gl5n (n : Nat) (W : World) (B : Nat) (er : Int) (c3 : W.cell? ⟨B, 3, none⟩ = some (.slice none 0 0)) (Q : Po) (a : Act) (h0 : SR [(1, pt B 0), (3, ii er), (4, .slice none 0 0)] 71 [] W a W)
    (hQ : ∀ a, SR [(1, pt B 0), (3, ii er), (4, .slice none 0 0)] 71 [] W a W → Q .normal a W) : (regOf 5 C3).wpIn Fence.wide n Try.prog Q a W := by
  simp only [regOf, C3, Try.f3, Option.getD, Nat.reduceBEq, Bool.false_eq_true, if_true, if_false]
  refine region_sq (fun k_ a w => match k_ with | 0 => SR [(1, pt B 0), (3, ii er), (4, .slice none 0 0)] 71 [] W a w | 1 => SR [(1, pt B 0), (3, ii er), (20, .slice none 0 0)] 71 [] W a w | 2 => SR [(1, pt B 0), (3, ii er), (20, .slice none 0 0), (21, pt B 3)] 71 [] W a w | 3 => SR [(1, pt B 0), (3, ii er), (20, .slice none 0 0), (22, .slice none 0 0)] 71 [] W a w | 4 => SR [(1, pt B 0), (3, ii er), (23, .slice none 0 0)] 71 [] W a w | _ => SR [(1, pt B 0), (3, ii er), (4, .slice none 0 0)] 71 [] W a w) h0 ⟨?_, ?_, ?_, ?_, ?_, trivial⟩ ?_
  · intro a w (hI : SR _ _ _ _ a w); have e4 := hI.g 4 rfl; obtain rfl := hI.wp; go_simp; exact hI.s 20
  · intro a w (hI : SR _ _ _ _ a w); have e1 := hI.g 1 rfl; obtain rfl := hI.wp; go_simp; exact hI.s 21
  · intro a w (hI : SR _ _ _ _ a w); have e21 := hI.g 21 rfl; obtain rfl := hI.wp; go_simp; exact hI.s 22
  · intro a w (hI : SR _ _ _ _ a w); have e20 := hI.g 20 rfl; have e22 := hI.g 22 rfl; obtain rfl := hI.wp; go_simp; exact hI.s 23
  · intro a w (hI : SR _ _ _ _ a w); have e23 := hI.g 23 rfl; obtain rfl := hI.wp; go_simp; exact hI.s 4
  · intro a w (hI : SR _ _ _ _ a w); obtain rfl := hI.wp
    exact hQ a hI
theorem wmulM {a b : Nat} (h : a * b ≤ 9000000000) : IntKind.i64.wrap ((a : Int) * b) = ((a * b : Nat) : Int) := by
  rw [Int.natCast_mul]; exact IntWalk.i64_in _ (by rw [← Int.natCast_mul]; omega)
theorem waddM {a b : Nat} (h : a + b ≤ 9000000000) : IntKind.i64.wrap ((a : Int) + b) = ((a + b : Nat) : Int) := by
  rw [Int.natCast_add]; exact IntWalk.i64_in _ (by omega)
theorem wsubM {a b : Nat} (h : b ≤ a) (h2 : a ≤ 9000000000) : IntKind.i64.wrap ((a : Int) - b) = ((a - b : Nat) : Int) := by
  rw [IntWalk.i64_in _ (by omega)]; omega
theorem wsub1M {a : Nat} (h : 1 ≤ a) (h2 : a ≤ 9000000000) : IntKind.i64.wrap ((a : Int) - 1) = ((a - 1 : Nat) : Int) := by
  rw [IntWalk.i64_in _ (by omega)]; omega
theorem wadd1M {a : Nat} (h2 : a ≤ 9000000000) : IntKind.i64.wrap ((a : Int) + 1) = ((a + 1 : Nat) : Int) := by
  rw [IntWalk.i64_in _ (by omega)]; omega
theorem widM {b : Nat} (h : b ≤ 9000000000) : IntKind.i64.wrap (b : Int) = (b : Int) := IntWalk.i64_in _ (by omega)
theorem C23_eq : C23 = .seq (regOf 0 C23) (.seq (regOf 1 C23) .ret) := by kernel_rfl
theorem side_in (n : Nat) (w : World) (x : Int) : CallsIn Fence.wide n Try.prog 23 #[(ii x)] w fun e w' => e = .returned (.bool (okS x)) ∧ Below w.heap.size w w' := by
  refine callsIn_of_wp Try.func23 rfl trivial ?_
  show C23.wpIn _ _ _ _ _ _
  rw [C23_eq]
  refine wpIn_seq (sd0 n w x _ _ ⟨by simp [Try.ntmps23], rfl, by simp [Try.ntmps23], rfl⟩ ?_)
  intro a1 h1
  have fin : ∀ b a, okS x = b → SR [(2, .bool b)] 9 [] w a w → (Code.ret).wpIn Fence.wide n Try.prog (bodyPost Try.prog Try.f23 fun e w' => e = .returned (.bool (okS x)) ∧ Below w.heap.size w w') a w := fun b a hb h =>
    wpIn_ret ⟨h.defers, _, results_tmp (t := 2) rfl _ _ _, by rw [Array.getD_eq_getD_getElem?, h.kn (2, .bool b) (by simp), hb], Below.refl _ _⟩
  refine wpIn_seq ?_
  by_cases h2 : 1 ≤ x
  · by_cases h3 : x ≤ 256
    · exact sd1t n w x h2 h3 _ a1 h1 fun a h => fin true a (by unfold okS; simp [h2, h3]) h
    · exact sd1g n w x h2 h3 _ a1 h1 fun a h => fin false a (by unfold okS; simp; omega) h
  · exact sd1f n w x h2 _ a1 h1 fun a h => fin false a (by unfold okS; simp; omega) h
theorem C12_eq : C12 = .seq (regOf 0 C12) (.seq (.seq (regOf 1 C12) (.cond (.tmp 18) (.seq (regOf 2 C12) .ret) .skip)) (.seq (.seq (regOf 3 C12) (.cond (.tmp 27) (.seq (regOf 4 C12) .ret) .skip)) (.seq (.seq (regOf 5 C12) (.cond (.tmp 39) (.seq (regOf 6 C12) .ret) .skip)) (.seq (regOf 7 C12) .ret)))) := by kernel_rfl
theorem check12_in (n : Nat) (w : World) (X Y Z : Int) (o : Option Addr) (len c : Nat) : CallsIn Fence.wide n Try.prog 12 #[.agg #[(ii X), (ii Y), (ii Z), .slice o len c]] w fun e w' => e = .returned ((ii (chk X Y Z len))) ∧ Below w.heap.size w w' := by
  refine callsIn_of_wp Try.func12 rfl trivial ?_
  show C12.wpIn _ _ _ _ _ _
  rw [C12_eq]
  refine wpIn_seq (ck0 n w X Y Z (.slice o len c) _ _ ⟨by simp [Try.ntmps12], rfl, by simp [Try.ntmps12], rfl⟩ ?_)
  intro a1 h1
  have hH := (Has.start w).alloc (.cells #[(ii X), (ii Y), (ii Z), .slice o len c] 24)
  generalize w.alloc (.cells #[(ii X), (ii Y), (ii Z), .slice o len c] 24) = W1 at h1 hH ⊢
  obtain ⟨B, hB⟩ : ∃ B, B = w.heap.size := ⟨_, rfl⟩
  rw [← hB] at h1 hH
  have cB : ∀ {w'}, Has w [(B, .cells #[(ii X), (ii Y), (ii Z), .slice o len c] 24 (0, 0))] w' → ∀ {k v}, (#[(ii X), (ii Y), (ii Z), .slice o len c] : Array Value)[k]? = some v → w'.cell? ⟨B, k, none⟩ = some v := fun hh _ _ hv => hh.cell (t := 24) (fr := (0, 0)) (by simp) hv
  have hS := Has.stable w [(B, .cells #[(ii X), (ii Y), (ii Z), .slice o len c] 24 (0, 0))]
  have ret : ∀ v a w', chk X Y Z len = v → SR [(2, ii v)] 40 [] w' a w' → Below w.heap.size w w' → bodyPost Try.prog Try.f12 (fun e w' => e = .returned ((ii (chk X Y Z len))) ∧ Below w.heap.size w w') .ret a w' := fun v a w' hv h hb =>
    ⟨h.defers, _, results_tmp (t := 2) rfl _ _ _, by rw [Array.getD_eq_getD_getElem?, h.kn (2, ii v) (by simp), hv], hb⟩
  have bad : ∀ a w', (okS X && (okS Y && okS Z)) = false → SG [(1, pt B 0), (18, .bool true)] 40 (Has w [(B, .cells #[(ii X), (ii Y), (ii Z), .slice o len c] 24 (0, 0))]) a w' → ∀ Q, (Code.cond (.tmp 18) (.seq (regOf 2 C12) .ret) .skip).wpIn Fence.wide n Try.prog (Exit.then Q (bodyPost Try.prog Try.f12 fun e w' => e = .returned ((ii (chk X Y Z len))) ∧ Below w.heap.size w w')) a w' := by
    intro a w' hk h Q
    refine wpIn_cond (t := true) (by rw [eval_tmp]; exact h.kn (18, .bool true) (by simp)) ?_
    have hw := h.wp
    refine wpIn_seq (ck2 n w' _ a (h.sub (by simp)).sr ?_)
    intro a2 h2
    refine wpIn_ret (ret 2 a2 w' (by unfold chk; rw [if_neg (by rw [hk]; decide)]) h2 hw.bel)
  refine wpIn_seq (wpIn_seq ?_)
  cases e1 : okS X with
  | false => exact ck1a n hS B X Y Z (fun w h => cB h rfl) (fun m w _ => by rw [← e1]; exact side_in m w X) _ a1 W1 (h1.sg hH) fun a w' h => bad a w' (by rw [e1]; rfl) h _
  | true =>
  cases e2 : okS Y with
  | false => exact ck1b n hS B X Y Z (fun w h => cB h rfl) (fun w h => cB h rfl) (fun m w _ => by rw [← e1]; exact side_in m w X) (fun m w _ => by rw [← e2]; exact side_in m w Y) _ a1 W1 (h1.sg hH) fun a w' h => bad a w' (by rw [e1, e2]; rfl) h _
  | true =>
  cases e3 : okS Z with
  | false => exact ck1c n hS B X Y Z (fun w h => cB h rfl) (fun w h => cB h rfl) (fun w h => cB h rfl) (fun m w _ => by rw [← e1]; exact side_in m w X) (fun m w _ => by rw [← e2]; exact side_in m w Y) (fun m w _ => by rw [← e3]; exact side_in m w Z) _ a1 W1 (h1.sg hH) fun a w' h => bad a w' (by rw [e1, e2, e3]; rfl) h _
  | true =>
  refine ck1d n hS B X Y Z (fun w h => cB h rfl) (fun w h => cB h rfl) (fun w h => cB h rfl) (fun m w _ => by rw [← e1]; exact side_in m w X) (fun m w _ => by rw [← e2]; exact side_in m w Y) (fun m w _ => by rw [← e3]; exact side_in m w Z) _ a1 W1 (h1.sg hH) ?_
  intro a2 w2 h2
  have hG2 := h2.wp
  refine wpIn_cond (t := false) (by rw [eval_tmp]; exact h2.kn (18, .bool false) (by simp)) (wpIn_skip ?_)
  have b1 := okS_iff.1 e1
  have b2 := okS_iff.1 e2
  have b3 := okS_iff.1 e3
  have hall : (okS X && (okS Y && okS Z)) = true := by rw [e1, e2, e3]; rfl
  obtain ⟨x, rfl⟩ : ∃ x : Nat, X = x := ⟨X.toNat, by omega⟩
  obtain ⟨y, rfl⟩ : ∃ y : Nat, Y = y := ⟨Y.toNat, by omega⟩
  obtain ⟨z, rfl⟩ : ∃ z : Nat, Z = z := ⟨Z.toNat, by omega⟩
  have p1 : x * y ≤ 256 * 256 := Nat.mul_le_mul (by omega) (by omega)
  have p2 : x * y * z ≤ 256 * 256 * 256 := Nat.mul_le_mul p1 (by omega)
  have hcast : ((x : Int) * y * z) = ((x * y * z : Nat) : Int) := by rw [Int.natCast_mul, Int.natCast_mul]
  refine wpIn_seq (wpIn_seq ?_)
  by_cases hq : 262144 < x * y * z
  · refine ck3t n w2 B x y z (x * y) (x * y * z) (wmulM (by omega)) (wmulM (by omega)) hq (cB hG2 rfl) (cB hG2 rfl) (cB hG2 rfl) _ a2 (h2.sub (by simp)).sr ?_
    intro a3 h3
    refine wpIn_cond (t := true) (by rw [eval_tmp]; exact h3.kn (27, .bool true) (by simp)) ?_
    refine wpIn_seq (ck4 n w2 _ a3 (h3.sub (by simp)) ?_)
    intro a4 h4
    refine wpIn_ret (ret 3 a4 w2 (by unfold chk; rw [if_pos hall, hcast, if_pos (by omega)]) h4 hG2.bel)
  refine ck3f n w2 B x y z (x * y) (x * y * z) (wmulM (by omega)) (wmulM (by omega)) hq (cB hG2 rfl) (cB hG2 rfl) (cB hG2 rfl) _ a2 (h2.sub (by simp)).sr ?_
  intro a3 h3
  refine wpIn_cond (t := false) (by rw [eval_tmp]; exact h3.kn (27, .bool false) (by simp)) (wpIn_skip ?_)
  refine wpIn_seq (wpIn_seq (ck5 n w2 B x y z (x * y) (x * y * z) (wmulM (by omega)) (wmulM (by omega)) o len c (cB hG2 rfl) (cB hG2 rfl) (cB hG2 rfl) (cB hG2 rfl) _ a3 (h3.sub (by simp)) ?_))
  intro a4 h4
  by_cases hl : len = x * y * z
  · refine wpIn_cond (t := false) (by rw [eval_tmp, h4.kn (39, .bool ((len : Int) != (x * y * z : Nat))) (by simp), hl]; simp) (wpIn_skip ?_)
    refine wpIn_seq (ck7 n w2 _ a4 (h4.sub (by simp)) ?_)
    intro a5 h5
    refine wpIn_ret (ret 0 a5 w2 (by unfold chk; rw [if_pos hall, hcast, if_neg (by omega), if_pos (by omega)]) h5 hG2.bel)
  · refine wpIn_cond (t := true) (by rw [eval_tmp, h4.kn (39, .bool ((len : Int) != (x * y * z : Nat))) (by simp)]; simp; omega) ?_
    refine wpIn_seq (ck6 n w2 _ a4 (h4.sub (by simp)) ?_)
    intro a5 h5
    refine wpIn_ret (ret 2 a5 w2 (by unfold chk; rw [if_pos hall, hcast, if_neg (by omega), if_neg (by omega)]) h5 hG2.bel)
theorem C37_eq : C37 = .seq (regOf 0 C37) (.seq (regOf 1 C37) .ret) := by kernel_rfl
theorem clear37_in (n k v : Nat) (hk : k ≤ 255) (hv : v ≤ 255) (w : World) : CallsIn Fence.wide n Try.prog 37 #[.agg #[.int .u8 k, .int .u8 v]] w fun e w' => e = .returned (.bool (K.may k v && K.clear k)) ∧ Below w.heap.size w w' := by
  have hmay : ∀ m W, CallsIn Fence.wide m Try.prog 36 #[.agg #[.int .u8 k, .int .u8 v]] W fun e w' => e = .returned (.bool (K.may k v)) ∧ Below W.heap.size W w' := fun m W => callsIn_wide.2 (Kc.c36 k v (by omega) (by omega) (by omega) (by omega) W)
  have hclear : ∀ m W, CallsIn Fence.wide m Try.prog 43 #[.int .u8 k] W fun e w' => e = .returned (.bool (K.clear k)) ∧ Below W.heap.size W w' := fun m W => callsIn_wide.2 (Kc.c43 k (by omega) (by omega) W)
  refine callsIn_of_wp Try.func37 rfl trivial ?_
  show C37.wpIn _ _ _ _ _ _
  rw [C37_eq]
  refine wpIn_seq (cl0 n w k v _ _ ⟨by simp [Try.ntmps37], rfl, by simp [Try.ntmps37], rfl⟩ ?_)
  intro a1 h1
  have hH := (Has.start w).alloc (.cells #[.int .u8 k, .int .u8 v] 32)
  have fin : ∀ b a w', (K.may k v && K.clear k) = b → SG [(2, .bool b)] 10 (Has w [(w.heap.size, .cells #[.int .u8 k, .int .u8 v] 32 (0, 0))]) a w' → (Code.ret).wpIn Fence.wide n Try.prog (bodyPost Try.prog Try.f37 fun e w' => e = .returned (.bool (K.may k v && K.clear k)) ∧ Below w.heap.size w w') a w' := fun b a w' hb h =>
    wpIn_ret ⟨h.defers, _, results_tmp (t := 2) rfl _ _ _, by rw [Array.getD_eq_getD_getElem?, h.kn (2, .bool b) (by simp), hb], h.wp.bel⟩
  refine wpIn_seq ?_
  obtain ⟨b, e⟩ : ∃ b, K.may k v = b := ⟨_, rfl⟩
  cases b with
  | true =>
    rw [e] at hmay
    exact cl1t n (Has.stable _ _) w.heap.size k v (K.clear k) (fun w hh => hh.cell List.mem_cons_self rfl) (fun w hh => hh.cell List.mem_cons_self rfl) (fun m w _ => hmay m w) (fun m w _ => hclear m w) _ a1 _ (h1.sg hH) fun a w' h => fin _ a w' (by rw [e]; rfl) h
  | false =>
    rw [e] at hmay
    exact cl1f n (Has.stable _ _) w.heap.size k v (fun w hh => hh.cell List.mem_cons_self rfl) (fun w hh => hh.cell List.mem_cons_self rfl) (fun m w _ => hmay m w) _ a1 _ (h1.sg hH) fun a w' h => fin _ a w' (by rw [e]; rfl) h
abbrev fB (B g4 N x y z b i : Nat) : List (Nat × Value) := [(1, sl g4 N N), (2, ii x), (3, ii y), (4, ii z), (5, pt B 0), (11, ii b), (12, ii i)]
section
variable {B g4 N x y z b i : Nat} {V : Nat → Nat}
theorem fs1 (n : Nat) (W : World)  (hi : i ≤ 262144) (hi1 : 0 < x → 1 ≤ i) (hlt : 0 < x → (i - 1) < N) (h15 : ∀ j, j < N → V j ≤ 15) (hc : ∀ j, j < N → W.cell? ⟨g4, j, none⟩ = some (ii (V j))) (Q : Po) (a : Act) (h0 : SR (fB B g4 N x y z b i) 108 [] W a W)
    (hQ : ∀ a, SR (fB B g4 N x y z (max b (if 0 < x then V (i - 1) - 1 else 0)) i) 108 [] W a W → Q .normal a W) : (Code.seq (regOf 3 C38) (.cond (.tmp 25) (regOf 4 C38) .skip)).wpIn Fence.wide n Try.prog Q a W := by
  refine wpIn_seq (fr3 n W B g4 N x y z b i _ a (h0.sub (by simp)) ?_)
  intro a1 h1
  by_cases c : 0 < x
  · refine wpIn_cond (t := true) (by rw [eval_tmp, h1.kn (25, .bool (decide (0 < x))) (by simp)]; simp; omega) ?_
    rw [if_pos c] at hQ
    have k15 := h15 _ (hlt c)
    refine fr4 n W B g4 N x y z b i (i - 1) (V (i - 1)) (max b (V (i - 1) - 1)) (hlt c) (IntWalk.i64_in _ (by omega)) (by split <;> omega) (wsub1M (by omega) (by omega))  (hc _ (hlt c)) _ a1 (h1.sub (by simp)) ?_
    intro a2 h2
    exact hQ a2 (h2.sub (by simp))
  · refine wpIn_cond (t := false) (by rw [eval_tmp, h1.kn (25, .bool (decide (0 < x))) (by simp)]; simp; omega) (wpIn_skip ?_)
    rw [if_neg c, Nat.max_zero] at hQ
    exact hQ a1 (h1.sub (by simp))
theorem fs2 (n : Nat) (W : World) (X : Nat) (cX : W.cell? ⟨B, 0, none⟩ = some (ii X)) (hx : x ≤ 262144) (hi : i ≤ 262144)  (hlt : x + 1 < X → (i + 1) < N) (h15 : ∀ j, j < N → V j ≤ 15) (hc : ∀ j, j < N → W.cell? ⟨g4, j, none⟩ = some (ii (V j))) (Q : Po) (a : Act) (h0 : SR (fB B g4 N x y z b i) 108 [] W a W)
    (hQ : ∀ a, SR (fB B g4 N x y z (max b (if x + 1 < X then V (i + 1) - 1 else 0)) i) 108 [] W a W → Q .normal a W) : (Code.seq (regOf 5 C38) (.cond (.tmp 38) (regOf 6 C38) .skip)).wpIn Fence.wide n Try.prog Q a W := by
  refine wpIn_seq (fr5 n W B g4 N x y z b i X (by omega) cX _ a (h0.sub (by simp)) ?_)
  intro a1 h1
  by_cases c : x + 1 < X
  · refine wpIn_cond (t := true) (by rw [eval_tmp, h1.kn (38, .bool (decide ((x : Int) + 1 < X))) (by simp)]; simp; omega) ?_
    rw [if_pos c] at hQ
    have k15 := h15 _ (hlt c)
    refine fr6 n W B g4 N x y z b i (i + 1) (V (i + 1)) (max b (V (i + 1) - 1)) (hlt c) (IntWalk.i64_in _ (by omega)) (by split <;> omega) (wadd1M (by omega))  (hc _ (hlt c)) _ a1 (h1.sub (by simp)) ?_
    intro a2 h2
    exact hQ a2 (h2.sub (by simp))
  · refine wpIn_cond (t := false) (by rw [eval_tmp, h1.kn (38, .bool (decide ((x : Int) + 1 < X))) (by simp)]; simp; omega) (wpIn_skip ?_)
    rw [if_neg c, Nat.max_zero] at hQ
    exact hQ a1 (h1.sub (by simp))
theorem fs3 (n : Nat) (W : World) (X : Nat) (cX : W.cell? ⟨B, 0, none⟩ = some (ii X)) (hXi : 0 < z → X ≤ i) (hi : i ≤ 262144)  (hlt : 0 < z → (i - X) < N) (h15 : ∀ j, j < N → V j ≤ 15) (hc : ∀ j, j < N → W.cell? ⟨g4, j, none⟩ = some (ii (V j))) (Q : Po) (a : Act) (h0 : SR (fB B g4 N x y z b i) 108 [] W a W)
    (hQ : ∀ a, SR (fB B g4 N x y z (max b (if 0 < z then V (i - X) - 1 else 0)) i) 108 [] W a W → Q .normal a W) : (Code.seq (regOf 7 C38) (.cond (.tmp 48) (regOf 8 C38) .skip)).wpIn Fence.wide n Try.prog Q a W := by
  refine wpIn_seq (fr7 n W B g4 N x y z b i _ a (h0.sub (by simp)) ?_)
  intro a1 h1
  by_cases c : 0 < z
  · refine wpIn_cond (t := true) (by rw [eval_tmp, h1.kn (48, .bool (decide (0 < z))) (by simp)]; simp; omega) ?_
    rw [if_pos c] at hQ
    have k15 := h15 _ (hlt c)
    refine fr8 n W B g4 N x y z b i X (i - X) (V (i - X)) (max b (V (i - X) - 1)) (hlt c) (IntWalk.i64_in _ (by omega)) (by split <;> omega) (wsubM (by omega) (by omega)) cX (hc _ (hlt c)) _ a1 (h1.sub (by simp)) ?_
    intro a2 h2
    exact hQ a2 (h2.sub (by simp))
  · refine wpIn_cond (t := false) (by rw [eval_tmp, h1.kn (48, .bool (decide (0 < z))) (by simp)]; simp; omega) (wpIn_skip ?_)
    rw [if_neg c, Nat.max_zero] at hQ
    exact hQ a1 (h1.sub (by simp))
theorem fs4 (n : Nat) (W : World) (X Z : Nat) (cX : W.cell? ⟨B, 0, none⟩ = some (ii X)) (cZ : W.cell? ⟨B, 2, none⟩ = some (ii Z)) (hz : z ≤ 262144) (hX : X ≤ 262144) (hi : i ≤ 262144)  (hlt : z + 1 < Z → (i + X) < N) (h15 : ∀ j, j < N → V j ≤ 15) (hc : ∀ j, j < N → W.cell? ⟨g4, j, none⟩ = some (ii (V j))) (Q : Po) (a : Act) (h0 : SR (fB B g4 N x y z b i) 108 [] W a W)
    (hQ : ∀ a, SR (fB B g4 N x y z (max b (if z + 1 < Z then V (i + X) - 1 else 0)) i) 108 [] W a W → Q .normal a W) : (Code.seq (regOf 9 C38) (.cond (.tmp 63) (regOf 10 C38) .skip)).wpIn Fence.wide n Try.prog Q a W := by
  refine wpIn_seq (fr9 n W B g4 N x y z b i Z (by omega) cZ _ a (h0.sub (by simp)) ?_)
  intro a1 h1
  by_cases c : z + 1 < Z
  · refine wpIn_cond (t := true) (by rw [eval_tmp, h1.kn (63, .bool (decide ((z : Int) + 1 < Z))) (by simp)]; simp; omega) ?_
    rw [if_pos c] at hQ
    have k15 := h15 _ (hlt c)
    refine fr10 n W B g4 N x y z b i X (i + X) (V (i + X)) (max b (V (i + X) - 1)) (hlt c) (IntWalk.i64_in _ (by omega)) (by split <;> omega) (waddM (by omega)) cX (hc _ (hlt c)) _ a1 (h1.sub (by simp)) ?_
    intro a2 h2
    exact hQ a2 (h2.sub (by simp))
  · refine wpIn_cond (t := false) (by rw [eval_tmp, h1.kn (63, .bool (decide ((z : Int) + 1 < Z))) (by simp)]; simp; omega) (wpIn_skip ?_)
    rw [if_neg c, Nat.max_zero] at hQ
    exact hQ a1 (h1.sub (by simp))
theorem fs5 (n : Nat) (W : World) (X Z : Nat) (cX : W.cell? ⟨B, 0, none⟩ = some (ii X)) (cZ : W.cell? ⟨B, 2, none⟩ = some (ii Z)) (hL : X * Z ≤ 262144) (hLi : 0 < y → X * Z ≤ i) (hi : i ≤ 262144)  (hlt : 0 < y → (i - X * Z) < N) (h15 : ∀ j, j < N → V j ≤ 15) (hc : ∀ j, j < N → W.cell? ⟨g4, j, none⟩ = some (ii (V j))) (Q : Po) (a : Act) (h0 : SR (fB B g4 N x y z b i) 108 [] W a W)
    (hQ : ∀ a, SR (fB B g4 N x y z (max b (if 0 < y then V (i - X * Z) - 1 else 0)) i) 108 [] W a W → Q .normal a W) : (Code.seq (regOf 11 C38) (.cond (.tmp 75) (regOf 12 C38) .skip)).wpIn Fence.wide n Try.prog Q a W := by
  refine wpIn_seq (fr11 n W B g4 N x y z b i _ a (h0.sub (by simp)) ?_)
  intro a1 h1
  by_cases c : 0 < y
  · refine wpIn_cond (t := true) (by rw [eval_tmp, h1.kn (75, .bool (decide (0 < y))) (by simp)]; simp; omega) ?_
    rw [if_pos c] at hQ
    have k15 := h15 _ (hlt c)
    refine fr12 n W B g4 N x y z b i X Z (X * Z) (wmulM (by omega)) (i - X * Z) (V (i - X * Z)) (max b (V (i - X * Z) - 1)) (hlt c) (IntWalk.i64_in _ (by omega)) (by split <;> omega) (wsubM (by omega) (by omega)) cX cZ (hc _ (hlt c)) _ a1 (h1.sub (by simp)) ?_
    intro a2 h2
    exact hQ a2 (h2.sub (by simp))
  · refine wpIn_cond (t := false) (by rw [eval_tmp, h1.kn (75, .bool (decide (0 < y))) (by simp)]; simp; omega) (wpIn_skip ?_)
    rw [if_neg c, Nat.max_zero] at hQ
    exact hQ a1 (h1.sub (by simp))
theorem fs6 (n : Nat) (W : World) (X Y Z : Nat) (cX : W.cell? ⟨B, 0, none⟩ = some (ii X)) (cY : W.cell? ⟨B, 1, none⟩ = some (ii Y)) (cZ : W.cell? ⟨B, 2, none⟩ = some (ii Z)) (hL : X * Z ≤ 262144) (hy : y ≤ 262144) (hi : i ≤ 262144)  (hlt : y + 1 < Y → (i + X * Z) < N) (h15 : ∀ j, j < N → V j ≤ 15) (hc : ∀ j, j < N → W.cell? ⟨g4, j, none⟩ = some (ii (V j))) (Q : Po) (a : Act) (h0 : SR (fB B g4 N x y z b i) 108 [] W a W)
    (hQ : ∀ a, SR (fB B g4 N x y z (max b (if y + 1 < Y then V (i + X * Z) - 1 else 0)) i) 108 [] W a W → Q .normal a W) : (Code.seq (regOf 13 C38) (.cond (.tmp 93) (regOf 14 C38) .skip)).wpIn Fence.wide n Try.prog Q a W := by
  refine wpIn_seq (fr13 n W B g4 N x y z b i Y (by omega) cY _ a (h0.sub (by simp)) ?_)
  intro a1 h1
  by_cases c : y + 1 < Y
  · refine wpIn_cond (t := true) (by rw [eval_tmp, h1.kn (93, .bool (decide ((y : Int) + 1 < Y))) (by simp)]; simp; omega) ?_
    rw [if_pos c] at hQ
    have k15 := h15 _ (hlt c)
    refine fr14 n W B g4 N x y z b i X Z (X * Z) (wmulM (by omega)) (i + X * Z) (V (i + X * Z)) (max b (V (i + X * Z) - 1)) (hlt c) (IntWalk.i64_in _ (by omega)) (by split <;> omega) (waddM (by omega)) cX cZ (hc _ (hlt c)) _ a1 (h1.sub (by simp)) ?_
    intro a2 h2
    exact hQ a2 (h2.sub (by simp))
  · refine wpIn_cond (t := false) (by rw [eval_tmp, h1.kn (93, .bool (decide ((y : Int) + 1 < Y))) (by simp)]; simp; omega) (wpIn_skip ?_)
    rw [if_neg c, Nat.max_zero] at hQ
    exact hQ a1 (h1.sub (by simp))
end
theorem ite_foldl (f : Nat → Nat) (c : Prop) [Decidable c] (j m : Nat) : (if c then [j] else []).foldl (fun m s => max m (f s)) m = max m (if c then f j else 0) := by
  split <;> simp
theorem C38_eq : C38 = .seq (regOf 0 C38) (.seq (regOf 1 C38) (.seq (regOf 2 C38) (.seq (.seq (regOf 3 C38) (.cond (.tmp 25) (regOf 4 C38) .skip)) (.seq (.seq (regOf 5 C38) (.cond (.tmp 38) (regOf 6 C38) .skip)) (.seq (.seq (regOf 7 C38) (.cond (.tmp 48) (regOf 8 C38) .skip)) (.seq (.seq (regOf 9 C38) (.cond (.tmp 63) (regOf 10 C38) .skip)) (.seq (.seq (regOf 11 C38) (.cond (.tmp 75) (regOf 12 C38) .skip)) (.seq (.seq (regOf 13 C38) (.cond (.tmp 93) (regOf 14 C38) .skip)) (.seq (regOf 15 C38) .ret))))))))) := by kernel_rfl
theorem from_in (n : Nat) (w : World) {X Y Z N g4 : Nat} {V : Nat → Nat} (cv : Value) (hX : 1 ≤ X ∧ X ≤ 256) (hY : 1 ≤ Y ∧ Y ≤ 256) (hZ : 1 ≤ Z ∧ Z ≤ 256) (hNe : N = X * Y * Z) (hN : N ≤ 262144) (hg : g4 < w.heap.size) (hc : ∀ j, j < N → w.cell? ⟨g4, j, none⟩ = some (ii (V j))) (h15 : ∀ j, j < N → V j ≤ 15) {x y z : Nat} (hx : x < X) (hy : y < Y) (hz : z < Z) :
    CallsIn Fence.wide n Try.prog 38 #[.agg #[(ii X), (ii Y), (ii Z), cv], (sl g4 N N), (ii x), (ii y), (ii z)] w fun e w' => e = .returned ((ii (Glow.up (Glow.sides X Y Z) V (Glow.enc X Z x z y) : Nat))) ∧ Below w.heap.size w w' := by
  refine callsIn_of_wp Try.func38 rfl trivial ?_
  show C38.wpIn _ _ _ _ _ _
  rw [C38_eq]
  refine wpIn_seq (fr0 n w X Y Z cv g4 N x y z _ _ ⟨by simp [Try.ntmps38], rfl, by simp [Try.ntmps38], rfl⟩ ?_)
  intro a1 h1
  have hH := (Has.start w).alloc (.cells #[(ii X), (ii Y), (ii Z), cv] 24)
  generalize w.alloc (.cells #[(ii X), (ii Y), (ii Z), cv] 24) = W1 at h1 hH ⊢
  obtain ⟨B, hB⟩ : ∃ B, B = w.heap.size := ⟨_, rfl⟩
  rw [← hB] at h1 hH
  have cX : W1.cell? ⟨B, 0, none⟩ = some (ii X) := hH.cell List.mem_cons_self rfl
  have cY : W1.cell? ⟨B, 1, none⟩ = some (ii Y) := hH.cell List.mem_cons_self rfl
  have cZ : W1.cell? ⟨B, 2, none⟩ = some (ii Z) := hH.cell List.mem_cons_self rfl
  have hc1 : ∀ j, j < N → W1.cell? ⟨g4, j, none⟩ = some (ii (V j)) := fun j hj => hH.old hg (hc j hj)
  have hi : Glow.enc X Z x z y < N := by rw [hNe]; exact Glow.enc_lt hx hz hy
  have hL : X * Z ≤ N := by
    have : X * Z * 1 ≤ X * Z * Y := Nat.mul_le_mul_left _ hY.1
    rw [hNe, Nat.mul_assoc, Nat.mul_comm Y Z, ← Nat.mul_assoc]; omega
  obtain ⟨i, hie⟩ : ∃ i, i = Glow.enc X Z x z y := ⟨_, rfl⟩
  have bound : ∀ s, s ∈ Glow.sides X Y Z i → s < N := fun s hs => by
    have := (Glow.sides_sym X Y Z i s (by rw [hie, ← hNe]; exact hi) hs).1
    rwa [← hNe] at this
  have ms := fun s => Glow.mem_sides (Y := Y) (y := y) (s := s) hx hz
  rw [← hie] at ms hi
  have kz1 := Glow.enc_z1 X Z x (z - 1) y
  have ky1 := Glow.enc_y1 X Z x z (y - 1)
  have kx1 := Glow.enc_x1 X Z (x - 1) z y
  have kz2 := Glow.enc_z1 X Z x z y
  have ky2 := Glow.enc_y1 X Z x z y
  have kx2 := Glow.enc_x1 X Z x z y
  have hp1 : ((y * Z + z) * X + x) = i := by rw [hie]; rfl
  have hzz : (y * Z + z) * X ≤ i := by omega
  have hyz : y * Z + z ≤ N := by
    have : (y * Z + z) * 1 ≤ (y * Z + z) * X := Nat.mul_le_mul_left _ hX.1
    omega
  have q1 : 0 < x → 1 ≤ i ∧ i - 1 < N := fun h => by omega
  have q2 : x + 1 < X → i + 1 < N := fun h => bound _ ((ms _).2 (.inl ⟨h, by rw [hie, kx2]⟩))
  have q3 : 0 < z → X ≤ i ∧ i - X < N := fun h => by rw [show z - 1 + 1 = z from by omega, ← hie] at kz1; omega
  have q4 : z + 1 < Z → i + X < N := fun h => bound _ ((ms _).2 (.inr (.inr (.inl ⟨h, by rw [hie, kz2]⟩))))
  have q5 : 0 < y → X * Z ≤ i ∧ i - X * Z < N := fun h => by rw [show y - 1 + 1 = y from by omega, ← hie] at ky1; omega
  have q6 : y + 1 < Y → i + X * Z < N := fun h => bound _ ((ms _).2 (.inr (.inr (.inr (.inr (.inl ⟨h, by rw [hie, ky2]⟩))))))
  refine wpIn_seq (fr1 n W1 B g4 N x y z _ a1 (h1.sub (by simp)) ?_)
  intro a2 h2
  refine wpIn_seq (fr2 n W1 B g4 N x y z X Z (y * Z) (y * Z + z) ((y * Z + z) * X) i (wmulM (by omega)) (waddM (by omega)) (wmulM (by omega)) (by rw [waddM (by omega), hp1]) cZ cX _ a2 h2 ?_)
  intro a3 h3
  have h3 : SR (fB B g4 N x y z 0 i) 108 [] W1 a3 W1 := h3.sub (by simp)
  refine wpIn_seq (fs1 n W1 (by omega) (fun h => (q1 h).1) (fun h => (q1 h).2) h15 hc1 _ a3 h3 ?_)
  intro a4 h4
  refine wpIn_seq (fs2 n W1 X cX (by omega) (by omega) q2 h15 hc1 _ a4 h4 ?_)
  intro a5 h5
  refine wpIn_seq (fs3 n W1 X cX (fun h => (q3 h).1) (by omega) (fun h => (q3 h).2) h15 hc1 _ a5 h5 ?_)
  intro a6 h6
  refine wpIn_seq (fs4 n W1 X Z cX cZ (by omega) (by omega) (by omega) q4 h15 hc1 _ a6 h6 ?_)
  intro a7 h7
  refine wpIn_seq (fs5 n W1 X Z cX cZ (by omega) (fun h => (q5 h).1) (by omega) (fun h => (q5 h).2) h15 hc1 _ a7 h7 ?_)
  intro a8 h8
  refine wpIn_seq (fs6 n W1 X Y Z cX cY cZ (by omega) (by omega) (by omega) q6 h15 hc1 _ a8 h8 ?_)
  intro a9 h9
  have hup : Glow.up (Glow.sides X Y Z) V i = max (max (max (max (max (max 0 (if 0 < x then V (i - 1) - 1 else 0)) (if x + 1 < X then V (i + 1) - 1 else 0)) (if 0 < z then V (i - X) - 1 else 0)) (if z + 1 < Z then V (i + X) - 1 else 0)) (if 0 < y then V (i - X * Z) - 1 else 0)) (if y + 1 < Y then V (i + X * Z) - 1 else 0) := by
    unfold Glow.up Glow.sides
    rw [hie, Glow.enc_x hx, Glow.enc_z hx hz, Glow.enc_y hx hz, ← hie]
    simp only [List.foldl_append, ite_foldl (fun s => V s - 1)]
    generalize (if 0 < x then V (i - 1) - 1 else 0) = s1
    generalize (if x + 1 < X then V (i + 1) - 1 else 0) = s2
    generalize (if 0 < z then V (i - X) - 1 else 0) = s3
    generalize (if z + 1 < Z then V (i + X) - 1 else 0) = s4
    generalize (if 0 < y then V (i - X * Z) - 1 else 0) = s5
    generalize (if y + 1 < Y then V (i + X * Z) - 1 else 0) = s6
    omega
  rw [← hup] at h9
  refine wpIn_seq (fr15 n W1 (Glow.up (Glow.sides X Y Z) V i) _ a9 (h9.sub (by simp)) ?_)
  intro a10 h10
  exact wpIn_ret ⟨h10.defers, _, results_tmp (t := 10) rfl _ _ _, by rw [Array.getD_eq_getD_getElem?, h10.kn (10, (ii (Glow.up (Glow.sides X Y Z) V i : Nat))) (by simp), hie], hH.bel⟩
theorem C16_eq : C16 = .seq (regOf 0 C16) (.seq (.seq (regOf 1 C16) (.cond (.tmp 10) (.seq (regOf 2 C16) .ret) .skip)) (.seq (.seq (regOf 3 C16) (.block 0 (.loop (.seq (.seq (regOf 4 C16) (.cond (.tmp 14) .skip (.exit 0))) (.seq (.block 1 (.seq (regOf 6 C16) (.cond (.tmp 25) (.seq (regOf 7 C16) .ret) .skip))) (regOf 5 C16)))))) (.seq (regOf 8 C16) .ret))) := by kernel_rfl
abbrev A5m (r g5 N c5 i : Nat) : List (Nat × Value) := [(0, sl r N N), (1, sl g5 N c5), (5, ii i)]
theorem same_in (n : Nat) (w : World) {r g5 N c5 : Nat} {S L : Nat → Nat} (hN : N ≤ 262144) (hr : r < w.heap.size) (hg : g5 < w.heap.size) (a1 : ∀ i, i < N → w.cell? ⟨r, i * 2, none⟩ = some (.int .u8 (S i)) ∧ w.cell? ⟨r, i * 2 + 1, none⟩ = some (.int .u8 (L i)))
    (a2 : ∀ i, i < N → w.cell? ⟨g5, i * 2, none⟩ = some (.int .u8 (S i)) ∧ w.cell? ⟨g5, i * 2 + 1, none⟩ = some (.int .u8 (L i))) : CallsIn Fence.wide n Try.prog 16 #[(sl r N N), (sl g5 N c5)] w fun e w' => e = .returned (.bool true) ∧ Below w.heap.size w w' := by
  refine callsIn_of_wp Try.func16 rfl trivial ?_
  show C16.wpIn _ _ _ _ _ _
  rw [C16_eq]
  refine wpIn_seq (sm0 n w r g5 N c5 _ _ ⟨by simp [Try.ntmps16], rfl, by simp [Try.ntmps16], rfl⟩ ?_)
  intro b1 h1
  refine wpIn_seq (wpIn_seq (sm1 n w r g5 N c5 _ b1 h1 ?_))
  intro b2 h2
  refine wpIn_cond (t := false) (by rw [eval_tmp]; exact h2.kn (10, .bool false) (by simp)) (wpIn_skip ?_)
  refine wpIn_seq (wpIn_seq (sm3 n w r g5 N c5 _ b2 (h2.sub (by simp)) ?_))
  intro b3 h3
  have hS : Stable (Below w.heap.size w) := fun w1 w2 h hb => h.trans (hb.mono h.size)
  have cl : ∀ {w'}, Below w.heap.size w w' → ∀ {b j v}, b < w.heap.size → w.cell? ⟨b, j, none⟩ = some v → w'.cell? ⟨b, j, none⟩ = some v := fun hb b j v hlt hv => (hb.cell (p := ⟨b, j, none⟩) hlt).trans hv
  refine wpIn_block (wpIn_loop (fun a w' => ∃ i, i ≤ N ∧ SG (A5m r g5 N c5 i) 26 (Below w.heap.size w) a w') (fun a _ => N - slotN 5 a) ⟨0, Nat.zero_le _, h3.sg (Below.refl _ _)⟩ ?_)
  rintro a w' ⟨i, hin, ha⟩
  have e5 := ha.slot (t := 5) (v := i) (k := .i64) (by simp)
  have hG := ha.wp
  refine wpIn_seq (wpIn_seq (sm4 n w' r g5 N c5 i _ a ha.sr ?_))
  intro a4 h4
  have h4 := h4.sg hG
  refine wpIn_cond (t := decide (i < N)) (by rw [eval_tmp]; exact h4.kn (14, _) (by simp)) ?_
  by_cases hlt : i < N
  · rw [decide_eq_true hlt]
    refine wpIn_skip (wpIn_seq (wpIn_block ?_))
    refine wpIn_seq (sm6 n hS r g5 N c5 i (S i) (L i) hlt (fun w h => cl h hr (a1 i hlt).1) (fun w h => cl h hr (a1 i hlt).2) (fun w h => cl h hg (a2 i hlt).1) (fun w h => cl h hg (a2 i hlt).2) _ a4 w' (h4.sub (by simp)) ?_)
    intro a5 w5 h5
    have hG5 := h5.wp
    refine wpIn_cond (t := false) (by rw [eval_tmp]; exact h5.kn (25, .bool false) (by simp)) (wpIn_skip ?_)
    show (regOf 5 C16).wpIn _ _ _ _ _ _
    refine sm5 n w5 r g5 N c5 i (by omega) _ a5 (h5.sub (by simp)).sr ?_
    intro a6 h6
    have h6 : SG (A5m r g5 N c5 (i + 1)) 26 (Below w.heap.size w) a6 w5 := h6.sg hG5
    exact ⟨⟨i + 1, hlt, h6⟩, by rw [e5, h6.slot (t := 5) (v := i + 1) (k := .i64) (by simp)]; omega⟩
  · rw [decide_eq_false hlt]
    refine wpIn_exit ?_
    show (Code.seq (regOf 8 C16) .ret).wpIn _ _ _ _ _ _
    refine wpIn_seq (sm8 n w' _ a4 (h4.sub (by simp)).sr ?_)
    intro a7 h7
    exact wpIn_ret ⟨h7.defers, _, results_tmp (t := 4) rfl _ _ _, by rw [Array.getD_eq_getD_getElem?, h7.kn (4, .bool true) (by simp)], hG⟩
structure RowI (w : World) (b N : Nat) (f : Nat → Nat) : Prop where
  lt : b < w.heap.size
  cell : ∀ i, i < N → w.cell? ⟨b, i, none⟩ = some (ii (f i))
theorem RowI.below {w w' : World} {b N : Nat} {f : Nat → Nat} (h : RowI w b N f) (hb : Below w.heap.size w w') : RowI w' b N f := ⟨Nat.lt_of_lt_of_le h.lt hb.size, fun i hi => (hb.cell (p := ⟨b, i, none⟩) h.lt).trans (h.cell i hi)⟩
theorem RowI.old {W0 w : World} {bs : List (Nat × Obj)} {b N : Nat} {f : Nat → Nat} (h : RowI W0 b N f) (hh : Has W0 bs w) : RowI w b N f := ⟨Nat.lt_of_lt_of_le h.lt hh.bel.size, fun i hi => hh.old h.lt (h.cell i hi)⟩
theorem RowI.congr {w : World} {b N : Nat} {f f' : Nat → Nat} (h : RowI w b N f) (he : ∀ i, i < N → f i = f' i) : RowI w b N f' := ⟨h.lt, fun i hi => by rw [← he i hi]; exact h.cell i hi⟩
structure FI (N : Nat) (P : Nat → Nat) (c : Array Value) : Prop where
  size : c.size = N
  row : ∀ j, j < N → c[j]? = some (ii (P j))
theorem FI.set {N : Nat} {P : Nat → Nat} {c : Array Value} (h : FI N P c) {i : Nat} (hi : i < N) (v : Nat) : FI N (fun j => if j = i then v else P j) (c.setIfInBounds i ((ii v))) where
  size := by simp [h.size]
  row := fun j hj => by
    have hs := h.size
    rw [Array.getElem?_setIfInBounds]
    by_cases e : i = j
    · rw [if_pos e, if_pos (by omega), if_pos e.symm]
    · rw [if_neg e, if_neg (Ne.symm e)]; exact h.row j hj
theorem FI.congr {N : Nat} {P P' : Nat → Nat} {c : Array Value} (h : FI N P c) (he : ∀ j, j < N → P j = P' j) : FI N P' c := ⟨h.size, fun j hj => by rw [← he j hj]; exact h.row j hj⟩
theorem FI.made (N : Nat) : FI N (fun _ => 0) (madeCells #[(ii 0)] N) := ⟨size_madeCells _ _, fun j hj => by simp [madeCells, hj, Nat.mod_one]⟩
theorem FI.any {N : Nat} {P : Nat → Nat} {c : Array Value} {W0 w : World} {bs : List (Nat × Obj)} {b : Nat} (h : FI N P c) (hh : Has W0 ((b, .cells c 3 (0, 0)) :: bs) w) {i : Nat} (hi : i < N) : ∃ v, w.cell? ⟨b, i, none⟩ = some v := ⟨_, hh.cell List.mem_cons_self (h.row i hi)⟩
theorem FI.rowI {N : Nat} {P : Nat → Nat} {c : Array Value} {W0 w : World} {bs : List (Nat × Obj)} {b : Nat} (h : FI N P c) (hh : Has W0 bs w) (hm : (b, Obj.cells c 3 (0, 0)) ∈ bs) : RowI w b N P := ⟨hh.lt hm, fun i hi => hh.cell hm (h.row i hi)⟩
section
variable {cl : Nat → Bool} {X Y Z N : Nat}
def colP (cl : Nat → Bool) (L Y cc m j : Nat) : Nat := if (j % L < cc ∧ j ∈ skyF cl L Y L) ∨ (j % L = cc ∧ m ≤ j / L) then 15 else 0
def colQ (cl : Nat → Bool) (L Y cc j : Nat) : Nat := if j % L < cc ∧ j ∈ skyF cl L Y L then 15 else 0
theorem sky_col {L Y j : Nat} (hL : 0 < L) (hj : j < Y * L) : j ∈ skyF cl L Y L ↔ ∀ y', j / L ≤ y' → y' < Y → cl (y' * L + j % L) = true := by
  rw [skyF_mem]
  have e : j / L * L + j % L = j := by rw [Nat.mul_comm]; exact Nat.div_add_mod j L
  constructor
  · rintro ⟨k, y, hk, hy, rfl, h⟩
    have h1 : (y * L + k) % L = k := by rw [Nat.mul_comm, Nat.mul_add_mod, Nat.mod_eq_of_lt hk]
    have h2 : (y * L + k) / L = y := by rw [Nat.mul_comm, Nat.mul_add_div hL, Nat.div_eq_of_lt hk]; rfl
    rw [h1, h2]; exact h
  · intro h
    exact ⟨j % L, j / L, Nat.mod_lt _ hL, Nat.div_lt_of_lt_mul (by rw [Nat.mul_comm]; exact hj), e.symm, h⟩
theorem colP_top {L Y cc j : Nat} (hL : 0 < L) (hj : j < Y * L) : colP cl L Y cc Y j = colQ cl L Y cc j := by
  have : j / L < Y := Nat.div_lt_of_lt_mul (by rw [Nat.mul_comm]; exact hj)
  unfold colP colQ
  by_cases h : j % L < cc ∧ j ∈ skyF cl L Y L
  · rw [if_pos h, if_pos (.inl h)]
  · rw [if_neg h, if_neg (fun h' => by rcases h' with h' | h'; · exact h h'
                                       · omega)]
theorem colP_end {L Y cc m j : Nat} (hL : 0 < L) (hj : j < Y * L) (inv : ∀ y', m ≤ y' → y' < Y → cl (y' * L + cc) = true) (hend : m = 0 ∨ cl ((m - 1) * L + cc) = false) (hm : m ≤ Y) : colP cl L Y cc m j = colQ cl L Y (cc + 1) j := by
  have hy : j / L < Y := Nat.div_lt_of_lt_mul (by rw [Nat.mul_comm]; exact hj)
  have key : j % L = cc → (m ≤ j / L ↔ j ∈ skyF cl L Y L) := by
    intro e
    rw [sky_col hL hj, e]
    generalize j / L = q at *
    constructor
    · intro h y' h1 h2
      exact inv y' (by omega) h2
    · intro h
      rcases hend with h0 | h0
      · omega
      · refine Nat.le_of_not_lt fun hlt => ?_
        rw [h (m - 1) (by omega) (by omega)] at h0
        cases h0
  unfold colP colQ
  by_cases e : j % L = cc
  · by_cases h : m ≤ j / L
    · rw [if_pos (.inr ⟨e, h⟩), if_pos ⟨by omega, (key e).1 h⟩]
    · rw [if_neg (fun h' => by rcases h' with h' | h' <;> omega), if_neg (fun h' => h ((key e).2 h'.2))]
  · by_cases h : j % L < cc ∧ j ∈ skyF cl L Y L
    · rw [if_pos (.inl h), if_pos ⟨by omega, h.2⟩]
    · rw [if_neg (fun h' => by rcases h' with h' | h'; · exact h h'
                               · exact e h'.1), if_neg (fun h' => h ⟨by omega, h'.2⟩)]
theorem colP_set {L Y cc m j : Nat} (hL : 0 < L) (hcc : cc < L) : (if j = m * L + cc then 15 else colP cl L Y cc (m + 1) j) = colP cl L Y cc m j := by
  have e : j / L * L + j % L = j := by rw [Nat.mul_comm]; exact Nat.div_add_mod j L
  by_cases h : j = m * L + cc
  · have h1 : j % L = cc := by rw [h, Nat.mul_comm, Nat.mul_add_mod, Nat.mod_eq_of_lt hcc]
    have h2 : j / L = m := by rw [h, Nat.mul_comm, Nat.mul_add_div hL, Nat.div_eq_of_lt hcc]; rfl
    rw [if_pos h]; unfold colP; rw [if_pos (.inr ⟨h1, by omega⟩)]
  · rw [if_neg h]
    unfold colP
    have : (j % L = cc ∧ m + 1 ≤ j / L) ↔ (j % L = cc ∧ m ≤ j / L) := by
      constructor
      · rintro ⟨h1, h2⟩; exact ⟨h1, by omega⟩
      · rintro ⟨h1, h2⟩
        refine ⟨h1, ?_⟩
        rcases Nat.lt_or_ge m (j / L) with h3 | h3
        · exact h3
        · exfalso; apply h
          have : j / L = m := by omega
          rw [← e, this, h1]
    simp only [this]
end
noncomputable def Lpy : Code := .seq (.seq (regOf 9 C28) (.cond (.tmp 28) .skip (.exit 4))) (.seq (.block 5 (.seq (regOf 11 C28) (.seq (.seq (regOf 12 C28) (.cond (.tmp 48) (.exit 4) .skip)) (regOf 13 C28)))) (regOf 10 C28))
noncomputable def Lpx : Code := .seq (.seq (regOf 6 C28) (.cond (.tmp 21) .skip (.exit 2))) (.seq (.block 3 (.seq (regOf 8 C28) (.block 4 (.loop Lpy)))) (regOf 7 C28))
noncomputable def Lpz : Code := .seq (.seq (regOf 3 C28) (.cond (.tmp 15) .skip (.exit 0))) (.seq (.block 1 (.seq (regOf 5 C28) (.block 2 (.loop Lpx)))) (regOf 4 C28))
theorem C28_eq : C28 = .seq (regOf 0 C28) (.seq (regOf 1 C28) (.seq (.seq (regOf 2 C28) (.block 0 (.loop Lpz))) (.seq (regOf 14 C28) .ret))) := by kernel_rfl
section
variable {W0 : World} {X Y Z N g off cap B g4 : Nat} {A : Nat → Int}
abbrev bsS (X Y Z N g off cap B g4 : Nat) (c : Array Value) : List (Nat × Obj) := [(g4, .cells c 3 (0, 0)), (B, .cells #[(ii X), (ii Y), (ii Z), .slice (some ⟨g, off, none⟩) N cap] 24 (0, 0))]
theorem cbS {c : Array Value} {w : World} (hh : Has W0 (bsS X Y Z N g off cap B g4 c) w) {k : Nat} {v : Value} (hv : (#[(ii X), (ii Y), (ii Z), .slice (some ⟨g, off, none⟩) N cap] : Array Value)[k]? = some v) : w.cell? ⟨B, k, none⟩ = some v := hh.cell (t := 24) (fr := (0, 0)) (List.mem_cons_of_mem _ List.mem_cons_self) hv
theorem slot_nat {a : Act} {t : Nat} {x : Int} {k : IntKind} (h : a.tmps[t]?.getD undef = .int k x) : slotN t a = x.toNat := by unfold slotN; rw [h]
theorem src_y (n : Nat) (h : Arg W0 X Y Z N g off A) {z x : Nat} (hz : z < Z) (hx : x < X) {c : Array Value} (f0 : FI N (colQ (clA A) (X * Z) Y (z * X + x)) c) (a : Act) (w : World) (Q : Po)
    (ha : SG (sD B g4 N z x ((Y : Int) - 1)) 53 (Has W0 (bsS X Y Z N g off cap B g4 c)) a w)
    (hQ : ∀ c a w, FI N (colQ (clA A) (X * Z) Y (z * X + x + 1)) c → SG (sC B g4 N z x) 53 (Has W0 (bsS X Y Z N g off cap B g4 c)) a w → Q .normal a w) : (Code.block 4 (.loop Lpy)).wpIn Fence.wide n Try.prog Q a w := by
  have hN := h.le
  have hL : 0 < X * Z := Nat.mul_pos h.x.1 h.z.1
  have hNY : N = Y * (X * Z) := by rw [h.n, Nat.mul_comm X Y, Nat.mul_assoc]
  have hcc : z * X + x < X * Z := by
    have : (z + 1) * X ≤ Z * X := Nat.mul_le_mul_right _ hz
    rw [Nat.add_mul, Nat.one_mul] at this
    rw [Nat.mul_comm X Z]; omega
  have hXL : X ≤ X * Z := by have := Nat.mul_le_mul_left X h.z.1; omega
  refine wpIn_block (wpIn_loop (fun a w => ∃ m c, m ≤ Y ∧ (∀ y', m ≤ y' → y' < Y → clA A (y' * (X * Z) + (z * X + x)) = true) ∧ FI N (colP (clA A) (X * Z) Y (z * X + x) m) c ∧ SG (sD B g4 N z x ((m : Int) - 1)) 53 (Has W0 (bsS X Y Z N g off cap B g4 c)) a w)
    (fun a _ => (match a.tmps[6]?.getD undef with | .int _ v => (v + 1).toNat | _ => 0)) ⟨Y, c, Nat.le_refl _, fun y' h1 h2 => by omega, f0.congr fun j hj => (colP_top hL (by rw [← hNY]; exact hj)).symm, ha⟩ ?_)
  rintro a w ⟨m, c, hm, inv, f0, ha⟩
  have e6 := ha.g 6 rfl
  have hG := ha.wp
  unfold Lpy
  refine wpIn_seq (wpIn_seq (sr9 n w B g4 N z x ((m : Int) - 1) _ a ha.sr ?_))
  intro a1 h1
  have h1 := h1.sg hG
  by_cases h0 : m = 0
  · refine wpIn_cond (t := false) (by rw [eval_tmp, h1.kn (28, .bool (decide ((0 : Int) ≤ (m : Int) - 1))) (by simp), decide_eq_false (by omega)]) (wpIn_exit ?_)
    exact hQ c a1 w (f0.congr fun j hj => colP_end hL (by rw [← hNY]; exact hj) inv (.inl h0) hm) (h1.sub (by simp))
  refine wpIn_cond (t := true) (by rw [eval_tmp, h1.kn (28, .bool (decide ((0 : Int) ≤ (m : Int) - 1))) (by simp), decide_eq_true (by omega)]) (wpIn_skip ?_)
  obtain ⟨y, rfl⟩ : ∃ y, m = y + 1 := ⟨m - 1, by omega⟩
  have ey : ((y + 1 : Nat) : Int) - 1 = (y : Int) := by omega
  rw [ey] at h1
  have hyz : y * Z + z < Y * Z := by
    have : (y + 1) * Z ≤ Y * Z := Nat.mul_le_mul_right _ hm
    rw [Nat.add_mul] at this; omega
  have hYZ : Y * Z ≤ N := by
    have : Y * Z * 1 ≤ Y * Z * X := Nat.mul_le_mul_left _ h.x.1
    rw [h.n, Nat.mul_comm X Y, Nat.mul_assoc, Nat.mul_comm X Z, ← Nat.mul_assoc]; omega
  have hp3 : (y * Z + z) * X + x = y * (X * Z) + (z * X + x) := by rw [Nat.add_mul, Nat.mul_assoc, Nat.mul_comm Z X]; omega
  have hi : y * (X * Z) + (z * X + x) < N := by
    rw [hNY]
    have : (y + 1) * (X * Z) ≤ Y * (X * Z) := Nat.mul_le_mul_right _ hm
    rw [Nat.add_mul] at this; omega
  refine wpIn_seq (wpIn_block ?_)
  refine wpIn_seq (sr11 n w B g4 N z x y X Z (y * Z) (y * Z + z) ((y * Z + z) * X) (y * (X * Z) + (z * X + x)) (wmulM (by omega)) (waddM (by omega)) (wmulM (by omega)) (by rw [waddM (by omega), hp3]) (cbS hG rfl) (cbS hG rfl) _ a1 (h1.sub (by simp)).sr ?_)
  intro a2 h2
  have h2 := h2.sg hG
  have hcl := fun (m : Nat) (w' : World) (_ : Has W0 (bsS X Y Z N g off cap B g4 c) w') => clear37_in m _ _ (h.row.kdle hi).1 (h.row.kdle hi).2 w'
  refine wpIn_seq (wpIn_seq ?_)
  obtain ⟨b, eb⟩ : ∃ b, clA A (y * (X * Z) + (z * X + x)) = b := ⟨_, rfl⟩
  have eb' := eb
  unfold clA at eb'
  rw [eb'] at hcl
  cases b with
  | false =>
    refine sr12f n (Has.stable _ _) B g4 N z x y (y * (X * Z) + (z * X + x)) g off cap _ _ hi (fun w hh => cbS hh rfl) (fun w hh => hh.old h.row.lt (h.row.kind hi)) (fun w hh => hh.old h.row.lt (h.row.level hi)) hcl _ a2 w h2 ?_
    intro a3 w3 h3
    refine wpIn_cond (t := true) (by rw [eval_tmp]; exact h3.kn (48, .bool true) (by simp)) (wpIn_exit ?_)
    exact hQ c a3 w3 (f0.congr fun j hj => colP_end hL (by rw [← hNY]; exact hj) inv (.inr eb) hm) (h3.sub (by simp))
  | true =>
    refine sr12t n (Has.stable _ _) B g4 N z x y (y * (X * Z) + (z * X + x)) g off cap _ _ hi (fun w hh => cbS hh rfl) (fun w hh => hh.old h.row.lt (h.row.kind hi)) (fun w hh => hh.old h.row.lt (h.row.level hi)) hcl _ a2 w h2 ?_
    intro a3 w3 h3
    refine wpIn_cond (t := false) (by rw [eval_tmp]; exact h3.kn (48, .bool false) (by simp)) (wpIn_skip ?_)
    refine sr13 n (G1 := Has W0 (bsS X Y Z N g off cap B g4 (c.setIfInBounds (y * (X * Z) + (z * X + x)) ((ii (15 : Nat)))))) (Has.stable _ _) B g4 N z x y (y * (X * Z) + (z * X + x)) hi (fun w hh => f0.any hh hi) (fun w hh => hh.unfrozen List.mem_cons_self _) (fun w hh => hh.set (m := y * (X * Z) + (z * X + x)) ((ii (15 : Nat)))) _ a3 w3 (h3.sub (by simp)) ?_
    intro a4 w4 h4
    show (regOf 10 C28).wpIn _ _ _ _ _ _
    have hG4 := h4.wp
    have hY := h.y.2
    refine sr10 n w4 B g4 N z x y (by omega) _ a4 h4.sr ?_
    intro a5 h5
    have h5 : SG (sD B g4 N z x ((y : Int) - 1)) 53 _ a5 w4 := (h5.sg hG4).sub (by simp)
    refine ⟨⟨y, _, by omega, fun y' k1 k2 => ?_, (f0.set hi 15).congr fun j _ => colP_set hL hcc, h5⟩, ?_⟩
    · by_cases e : y' = y
      · subst e; exact eb
      · exact inv y' (by omega) k2
    · rw [h5.g 6 rfl, e6]; simp only; omega
theorem src_x (n : Nat) (h : Arg W0 X Y Z N g off A) {z : Nat} (hz : z < Z) {c : Array Value} (f0 : FI N (colQ (clA A) (X * Z) Y (z * X)) c) (a : Act) (w : World) (Q : Po)
    (ha : SG (sC B g4 N z 0) 53 (Has W0 (bsS X Y Z N g off cap B g4 c)) a w)
    (hQ : ∀ c a w, FI N (colQ (clA A) (X * Z) Y ((z + 1) * X)) c → SG (sB B g4 N z) 53 (Has W0 (bsS X Y Z N g off cap B g4 c)) a w → Q .normal a w) : (Code.block 2 (.loop Lpx)).wpIn Fence.wide n Try.prog Q a w := by
  have hN := h.le
  have hXb := h.x.2
  have hYb := h.y.2
  refine wpIn_block (wpIn_loop (fun a w => ∃ x c, x ≤ X ∧ FI N (colQ (clA A) (X * Z) Y (z * X + x)) c ∧ SG (sC B g4 N z x) 53 (Has W0 (bsS X Y Z N g off cap B g4 c)) a w) (fun a _ => X - slotN 5 a) ⟨0, c, Nat.zero_le _, f0, ha⟩ ?_)
  rintro a w ⟨x, c, hx, f0, ha⟩
  have e5 := ha.slot (t := 5) (v := x) (k := .i64) (by simp)
  have hG := ha.wp
  unfold Lpx
  refine wpIn_seq (wpIn_seq (sr6 n w B g4 N z x X (cbS hG rfl) _ a ha.sr ?_))
  intro a1 h1
  have h1 := h1.sg hG
  refine wpIn_cond (t := decide (x < X)) (by rw [eval_tmp]; exact h1.kn (21, _) (by simp)) ?_
  by_cases hlt : x < X
  · rw [decide_eq_true hlt]
    refine wpIn_skip (wpIn_seq (wpIn_block ?_))
    refine wpIn_seq (sr8 n w B g4 N z x Y (by omega) (cbS hG rfl) _ a1 (h1.sub (by simp)).sr ?_)
    intro a2 h2
    refine src_y n h hz hlt f0 a2 w _ ((h2.sg hG).sub (by simp)) ?_
    intro c a3 w3 f0 h3
    show (regOf 7 C28).wpIn _ _ _ _ _ _
    have hG3 := h3.wp
    refine sr7 n w3 B g4 N z x (by omega) _ a3 h3.sr ?_
    intro a4 h4
    have h4 : SG (sC B g4 N z (x + 1)) 53 _ a4 w3 := (h4.sg hG3).sub (by simp)
    exact ⟨⟨x + 1, c, hlt, f0, h4⟩, by rw [e5, h4.slot (t := 5) (v := x + 1) (k := .i64) (by simp)]; omega⟩
  · rw [decide_eq_false hlt]
    obtain rfl : x = X := by omega
    exact wpIn_exit (hQ c a1 w (by rw [Nat.add_mul, Nat.one_mul]; exact f0) (h1.sub (by simp)))
end
theorem sources_in (n : Nat) (w : World) {X Y Z N g off cap : Nat} {A : Nat → Int} (h : Arg w X Y Z N g off A) : CallsIn Fence.wide n Try.prog 28 #[.agg #[(ii X), (ii Y), (ii Z), .slice (some ⟨g, off, none⟩) N cap]] w fun e w' =>
    ∃ r, e = .returned ((sl r N N)) ∧ Below w.heap.size w w' ∧ w.heap.size ≤ r ∧ RowI w' r N (skyS (clA A) (X * Z) Y) := by
  refine callsIn_of_wp Try.func28 rfl trivial ?_
  show C28.wpIn _ _ _ _ _ _
  rw [C28_eq]
  refine wpIn_seq (sr0 n w X Y Z (.slice (some ⟨g, off, none⟩) N cap) _ _ ⟨by simp [Try.ntmps28], rfl, by simp [Try.ntmps28], rfl⟩ ?_)
  intro a1 h1
  have hH := (Has.start w).alloc (.cells #[(ii X), (ii Y), (ii Z), .slice (some ⟨g, off, none⟩) N cap] 24)
  generalize w.alloc (.cells #[(ii X), (ii Y), (ii Z), .slice (some ⟨g, off, none⟩) N cap] 24) = W1 at h1 hH ⊢
  obtain ⟨B, hB⟩ : ∃ B, B = w.heap.size := ⟨_, rfl⟩
  rw [← hB] at h1 hH
  have hN := h.le
  have hZb := h.z.2
  refine wpIn_seq (sr1 n B N (some ⟨g, off, none⟩) cap (fun w hh => hh.cell List.mem_cons_self rfl) h.le (fun g4 => Has w (bsS X Y Z N g off cap B g4 (madeCells #[(ii 0)] N))) (fun w hh => hh.alloc _) _ a1 W1 (h1.sg hH) ?_)
  intro g4 a2 w2 h2
  have hG2 := h2.wp
  refine wpIn_seq (wpIn_seq (sr2 n w2 B g4 N _ a2 h2.sr ?_))
  intro a3 h3
  have hL : 0 < X * Z := Nat.mul_pos h.x.1 h.z.1
  refine wpIn_block (wpIn_loop (fun a w' => ∃ z c, z ≤ Z ∧ FI N (colQ (clA A) (X * Z) Y (z * X)) c ∧ SG (sB B g4 N z) 53 (Has w (bsS X Y Z N g off cap B g4 c)) a w') (fun a _ => Z - slotN 4 a)
    ⟨0, _, Nat.zero_le _, (FI.made N).congr fun j _ => by unfold colQ; rw [if_neg (by omega)], (h3.sg hG2).sub (by simp)⟩ ?_)
  rintro a w' ⟨z, c, hz, f0, ha⟩
  have e4 := ha.slot (t := 4) (v := z) (k := .i64) (by simp)
  have hG := ha.wp
  unfold Lpz
  refine wpIn_seq (wpIn_seq (sr3 n w' B g4 N z Z (cbS hG rfl) _ a ha.sr ?_))
  intro a4 h4
  have h4 := h4.sg hG
  refine wpIn_cond (t := decide (z < Z)) (by rw [eval_tmp]; exact h4.kn (15, _) (by simp)) ?_
  by_cases hlt : z < Z
  · rw [decide_eq_true hlt]
    refine wpIn_skip (wpIn_seq (wpIn_block ?_))
    refine wpIn_seq (sr5 n w' B g4 N z _ a4 (h4.sub (by simp)).sr ?_)
    intro a5 h5
    refine src_x n h hlt f0 a5 w' _ ((h5.sg hG).sub (by simp)) ?_
    intro c a6 w6 f0 h6
    show (regOf 4 C28).wpIn _ _ _ _ _ _
    have hG6 := h6.wp
    refine sr4 n w6 B g4 N z (by omega) _ a6 h6.sr ?_
    intro a7 h7
    have h7 : SG (sB B g4 N (z + 1)) 53 _ a7 w6 := (h7.sg hG6).sub (by simp)
    exact ⟨⟨z + 1, c, hlt, f0, h7⟩, by rw [e4, h7.slot (t := 4) (v := z + 1) (k := .i64) (by simp)]; omega⟩
  · rw [decide_eq_false hlt]
    obtain rfl : z = Z := by omega
    refine wpIn_exit ?_
    show (Code.seq (regOf 14 C28) .ret).wpIn _ _ _ _ _ _
    refine wpIn_seq (sr14 n w' B g4 N _ a4 (h4.sub (by simp)).sr ?_)
    intro a5 h5
    have hrow := (f0.rowI hG List.mem_cons_self).congr (f' := skyS (clA A) (X * z) Y) fun j _ => by
      have := Nat.mod_lt j hL
      unfold colQ skyS
      by_cases e : j ∈ skyF (clA A) (X * z) Y (X * z)
      · rw [if_pos ⟨by rw [Nat.mul_comm z X]; exact this, e⟩, if_pos e]
      · rw [if_neg (fun h => e h.2), if_neg e]
    exact wpIn_ret ⟨h5.defers, _, results_tmp (t := 2) rfl _ _ _, g4, by rw [Array.getD_eq_getD_getElem?, h5.kn (2, sl g4 N N) (by simp)], hG.bel, hG.new (g4, .cells c 3 (0, 0)) List.mem_cons_self, hrow⟩
def rndF (sd : Nat → List Nat) (cl : Nat → Bool) (src : Nat → Nat) : Nat → Nat → Nat
  | 0 => src
  | k + 1 => fun i => if cl i = true then max (src i) (Glow.up sd (rndF sd cl src k) i) else 0
theorem rndF_le {sd : Nat → List Nat} {cl : Nat → Bool} {src : Nat → Nat} {N : Nat} (hs : ∀ i, i < N → ∀ s ∈ sd i, s < N) (h0 : ∀ i, i < N → src i ≤ 15) : ∀ k i, i < N → rndF sd cl src k i ≤ 15
  | 0, i, hi => h0 i hi
  | k + 1, i, hi => by
    show (if cl i = true then max (src i) (Glow.up sd (rndF sd cl src k) i) else 0) ≤ 15
    have h1 := h0 i hi
    split
    · rcases Glow.up_of sd (rndF sd cl src k) i with e | ⟨s, hm, e⟩
      · omega
      · have := rndF_le (cl := cl) hs h0 k s (hs i hi s hm); omega
    · omega
noncomputable def Rx : Code := .seq (regOf 15 C29) (.seq (regOf 16 C29) (.cond (.tmp 55) (.seq (regOf 17 C29) (regOf 18 C29)) .skip))
noncomputable def Rlx : Code := .seq (.seq (regOf 13 C29) (.cond (.tmp 36) .skip (.exit 6))) (.seq (.block 7 Rx) (regOf 14 C29))
noncomputable def Rlz : Code := .seq (.seq (regOf 10 C29) (.cond (.tmp 30) .skip (.exit 4))) (.seq (.block 5 (.seq (regOf 12 C29) (.block 6 (.loop Rlx)))) (regOf 11 C29))
noncomputable def Rly : Code := .seq (.seq (regOf 7 C29) (.cond (.tmp 24) .skip (.exit 2))) (.seq (.block 3 (.seq (regOf 9 C29) (.block 4 (.loop Rlz)))) (regOf 8 C29))
noncomputable def Rlk : Code := .seq (.seq (regOf 3 C29) (.cond (.tmp 15) .skip (.exit 0))) (.seq (.block 1 (.seq (regOf 5 C29) (.seq (.seq (regOf 6 C29) (.block 2 (.loop Rly))) (regOf 19 C29)))) (regOf 4 C29))
theorem C29_eq : C29 = .seq (regOf 0 C29) (.seq (regOf 1 C29) (.seq (.seq (regOf 2 C29) (.block 0 (.loop Rlk))) (.seq (regOf 20 C29) .ret))) := by kernel_rfl
def nextP (f : Nat → Nat) (t j : Nat) : Nat := if j < t then f j else 0
structure RIn (W1 : World) (X Y Z N g off cap B o lk : Nat) (A : Nat → Int) (src R : Nat → Nat) : Prop where
  arg : Arg W1 X Y Z N g off A
  bx : B < W1.heap.size
  box : ∀ k v, (#[(ii X), (ii Y), (ii Z), .slice (some ⟨g, off, none⟩) N cap] : Array Value)[k]? = some v → W1.cell? ⟨B, k, none⟩ = some v
  own : RowI W1 o N src
  cur : RowI W1 lk N R
  s15 : ∀ i, i < N → src i ≤ 15
  r15 : ∀ i, i < N → R i ≤ 15
section
variable {W1 : World} {X Y Z N g off cap B o lk k nx : Nat} {A : Nat → Int} {src R : Nat → Nat}
abbrev stepF (X Y Z : Nat) (A : Nat → Int) (src R : Nat → Nat) (i : Nat) : Nat := if clA A i = true then max (src i) (Glow.up (Glow.sides X Y Z) R i) else 0
abbrev bsN (nx : Nat) (c : Array Value) : List (Nat × Obj) := [(nx, .cells c 3 (0, 0))]
theorem RIn.bc (h : RIn W1 X Y Z N g off cap B o lk A src R) {c : Array Value} {w : World} (hh : Has W1 (bsN nx c) w) {k : Nat} {v : Value} (hv : (#[(ii X), (ii Y), (ii Z), .slice (some ⟨g, off, none⟩) N cap] : Array Value)[k]? = some v) : w.cell? ⟨B, k, none⟩ = some v := hh.old h.bx (h.box k v hv)
theorem rnd_cell (n : Nat) (h : RIn W1 X Y Z N g off cap B o lk A src R) {y z x : Nat} (hy : y < Y) (hz : z < Z) (hx : x < X) {c : Array Value} (f0 : FI N (nextP (stepF X Y Z A src R) ((y * Z + z) * X + x)) c) (a : Act) (w : World) (Q : Po)
    (ha : SG (rE o N B lk k nx y z x) 73 (Has W1 (bsN nx c)) a w)
    (hQ : ∀ c a w, FI N (nextP (stepF X Y Z A src R) ((y * Z + z) * X + x + 1)) c → SG (rE o N B lk k nx y z x) 73 (Has W1 (bsN nx c)) a w → Q .normal a w) : Rx.wpIn Fence.wide n Try.prog Q a w := by
  have hN := h.arg.le
  obtain ⟨i, hi⟩ : ∃ i, i = (y * Z + z) * X + x := ⟨_, rfl⟩
  have hie : i = Glow.enc X Z x z y := hi
  have hiN : i < N := by rw [hie, h.arg.n]; exact Glow.enc_lt hx hz hy
  have hyz : (y * Z + z) ≤ i := by
    have : (y * Z + z) * 1 ≤ (y * Z + z) * X := Nat.mul_le_mul_left _ h.arg.x.1
    omega
  rw [← hi] at f0 hQ
  have hG := ha.wp
  unfold Rx
  refine wpIn_seq (ro15 n w o N B lk k nx y z x X Z (y * Z) (y * Z + z) ((y * Z + z) * X) i (wmulM (by omega)) (waddM (by omega)) (wmulM (by omega)) (by rw [waddM (by omega), hi]) (h.bc hG rfl) (h.bc hG rfl) _ a ha.sr ?_)
  intro a2 h2
  have h2 : SG (rF o N B lk k nx y z x i) 73 (Has W1 (bsN nx c)) a2 w := (h2.sg hG).sub (by simp)
  have hcl := fun (m : Nat) (w' : World) (_ : Has W1 (bsN nx c) w') => clear37_in m _ _ (h.arg.row.kdle hiN).1 (h.arg.row.kdle hiN).2 w'
  refine wpIn_seq (ro16 n (Has.stable _ _) o N B lk k nx y z x i g off cap _ _ (clA A i) hiN (fun w hh => h.bc hh rfl) (fun w hh => hh.old h.arg.row.lt (h.arg.row.kind hiN)) (fun w hh => hh.old h.arg.row.lt (h.arg.row.level hiN)) hcl _ a2 w h2 ?_)
  intro a3 w3 h3
  refine wpIn_cond (t := clA A i) (by rw [eval_tmp]; exact h3.kn (55, .bool (clA A i)) (by simp)) ?_
  have h3 : SG (rF o N B lk k nx y z x i) 73 (Has W1 (bsN nx c)) a3 w3 := h3.sub (by simp)
  cases eb : clA A i with
  | false =>
    refine wpIn_skip (hQ c a3 w3 (f0.congr fun j _ => ?_) (h3.sub (by simp)))
    unfold nextP
    by_cases e : j = i
    · subst e; rw [if_neg (by omega), if_pos (by omega)]; show 0 = stepF X Y Z A src R j; unfold stepF; rw [if_neg (by rw [eb]; decide)]
    · by_cases e2 : j < i
      · rw [if_pos e2, if_pos (by omega)]
      · rw [if_neg e2, if_neg (by omega)]
  | true =>
    refine wpIn_seq (ro17 n (Has.stable _ _) o N B lk k nx y z x i X Y Z (some ⟨g, off, none⟩) cap (Glow.up (Glow.sides X Y Z) R i) (fun w hh => h.bc hh rfl) (fun w hh => h.bc hh rfl) (fun w hh => h.bc hh rfl) (fun w hh => h.bc hh rfl)
      (fun m w hh => by rw [hie]; exact from_in m w _ h.arg.x h.arg.y h.arg.z h.arg.n h.arg.le (h.cur.old hh).lt (h.cur.old hh).cell h.r15 hx hy hz) _ a3 w3 h3 ?_)
    intro a4 w4 h4
    refine ro18 n (G1 := Has W1 (bsN nx (c.setIfInBounds i (.int .i64 (max (src i) (Glow.up (Glow.sides X Y Z) R i) : Nat))))) (Has.stable _ _) o N B lk k nx y z x i _ (src i) (max (src i) (Glow.up (Glow.sides X Y Z) R i)) hiN (by split <;> omega) (fun w hh => (h.own.old hh).cell i hiN)
      (fun w hh => f0.any hh hiN) (fun w hh => hh.unfrozen List.mem_cons_self _) (fun w hh => hh.set (m := i) _) _ a4 w4 h4 ?_
    intro a5 w5 h5
    refine hQ _ a5 w5 ((f0.set hiN _).congr fun j _ => ?_) h5
    unfold nextP
    by_cases e : j = i
    · subst e; rw [if_pos rfl, if_pos (by omega)]; show _ = stepF X Y Z A src R j; unfold stepF; rw [if_pos eb]
    · rw [if_neg e]
      by_cases e2 : j < i
      · rw [if_pos e2, if_pos (by omega)]
      · rw [if_neg e2, if_neg (by omega)]
theorem rnd_x (n : Nat) (h : RIn W1 X Y Z N g off cap B o lk A src R) {y z : Nat} (hy : y < Y) (hz : z < Z) {c : Array Value} (f0 : FI N (nextP (stepF X Y Z A src R) ((y * Z + z) * X)) c) (a : Act) (w : World) (Q : Po)
    (ha : SG (rE o N B lk k nx y z 0) 73 (Has W1 (bsN nx c)) a w)
    (hQ : ∀ c a w, FI N (nextP (stepF X Y Z A src R) ((y * Z + (z + 1)) * X)) c → SG (rD o N B lk k nx y z) 73 (Has W1 (bsN nx c)) a w → Q .normal a w) : (Code.block 6 (.loop Rlx)).wpIn Fence.wide n Try.prog Q a w := by
  have hXb := h.arg.x.2
  refine wpIn_block (wpIn_loop (fun a w => ∃ x c, x ≤ X ∧ FI N (nextP (stepF X Y Z A src R) ((y * Z + z) * X + x)) c ∧ SG (rE o N B lk k nx y z x) 73 (Has W1 (bsN nx c)) a w) (fun a _ => X - slotN 10 a) ⟨0, c, Nat.zero_le _, f0, ha⟩ ?_)
  rintro a w ⟨x, c, hx, f0, ha⟩
  have e5 := ha.slot (t := 10) (v := x) (k := .i64) (by simp)
  have hG := ha.wp
  unfold Rlx
  refine wpIn_seq (wpIn_seq (ro13 n w o N B lk k nx y z x X (h.bc hG rfl) _ a ha.sr ?_))
  intro a1 h1
  have h1 := h1.sg hG
  refine wpIn_cond (t := decide (x < X)) (by rw [eval_tmp]; exact h1.kn (36, _) (by simp)) ?_
  by_cases hlt : x < X
  · rw [decide_eq_true hlt]
    refine wpIn_skip (wpIn_seq (wpIn_block ?_))
    refine rnd_cell (k := k) n h hy hz hlt f0 a1 w _ (h1.sub (by simp)) ?_
    intro c a3 w3 f0 h3
    show (regOf 14 C29).wpIn _ _ _ _ _ _
    have hG3 := h3.wp
    refine ro14 n w3 o N B lk k nx y z x (by omega) _ a3 h3.sr ?_
    intro a4 h4
    have h4 : SG (rE o N B lk k nx y z (x + 1)) 73 _ a4 w3 := (h4.sg hG3).sub (by simp)
    exact ⟨⟨x + 1, c, hlt, f0, h4⟩, by rw [e5, h4.slot (t := 10) (v := x + 1) (k := .i64) (by simp)]; omega⟩
  · rw [decide_eq_false hlt]
    obtain rfl : x = X := by omega
    exact wpIn_exit (hQ c a1 w (by rw [← Nat.add_assoc, Nat.add_mul _ 1 x, Nat.one_mul]; exact f0) (h1.sub (by simp)))
theorem rnd_z (n : Nat) (h : RIn W1 X Y Z N g off cap B o lk A src R) {y : Nat} (hy : y < Y) {c : Array Value} (f0 : FI N (nextP (stepF X Y Z A src R) (y * Z * X)) c) (a : Act) (w : World) (Q : Po)
    (ha : SG (rD o N B lk k nx y 0) 73 (Has W1 (bsN nx c)) a w)
    (hQ : ∀ c a w, FI N (nextP (stepF X Y Z A src R) ((y + 1) * Z * X)) c → SG (rC o N B lk k nx y) 73 (Has W1 (bsN nx c)) a w → Q .normal a w) : (Code.block 4 (.loop Rlz)).wpIn Fence.wide n Try.prog Q a w := by
  have hZb := h.arg.z.2
  refine wpIn_block (wpIn_loop (fun a w => ∃ z c, z ≤ Z ∧ FI N (nextP (stepF X Y Z A src R) ((y * Z + z) * X)) c ∧ SG (rD o N B lk k nx y z) 73 (Has W1 (bsN nx c)) a w) (fun a _ => Z - slotN 9 a) ⟨0, c, Nat.zero_le _, f0, ha⟩ ?_)
  rintro a w ⟨z, c, hz, f0, ha⟩
  have e5 := ha.slot (t := 9) (v := z) (k := .i64) (by simp)
  have hG := ha.wp
  unfold Rlz
  refine wpIn_seq (wpIn_seq (ro10 n w o N B lk k nx y z Z (h.bc hG rfl) _ a ha.sr ?_))
  intro a1 h1
  have h1 := h1.sg hG
  refine wpIn_cond (t := decide (z < Z)) (by rw [eval_tmp]; exact h1.kn (30, _) (by simp)) ?_
  by_cases hlt : z < Z
  · rw [decide_eq_true hlt]
    refine wpIn_skip (wpIn_seq (wpIn_block ?_))
    refine wpIn_seq (ro12 n w o N B lk k nx y z _ a1 (h1.sub (by simp)).sr ?_)
    intro a2 h2
    refine rnd_x (k := k) n h hy hlt f0 a2 w _ ((h2.sg hG).sub (by simp)) ?_
    intro c a3 w3 f0 h3
    show (regOf 11 C29).wpIn _ _ _ _ _ _
    have hG3 := h3.wp
    refine ro11 n w3 o N B lk k nx y z (by omega) _ a3 h3.sr ?_
    intro a4 h4
    have h4 : SG (rD o N B lk k nx y (z + 1)) 73 _ a4 w3 := (h4.sg hG3).sub (by simp)
    exact ⟨⟨z + 1, c, hlt, f0, h4⟩, by rw [e5, h4.slot (t := 9) (v := z + 1) (k := .i64) (by simp)]; omega⟩
  · rw [decide_eq_false hlt]
    obtain rfl : z = Z := by omega
    exact wpIn_exit (hQ c a1 w (by rw [Nat.add_mul y 1 z, Nat.one_mul]; exact f0) (h1.sub (by simp)))
theorem rnd_y (n : Nat) (h : RIn W1 X Y Z N g off cap B o lk A src R) {c : Array Value} (f0 : FI N (nextP (stepF X Y Z A src R) 0) c) (a : Act) (w : World) (Q : Po)
    (ha : SG (rC o N B lk k nx 0) 73 (Has W1 (bsN nx c)) a w)
    (hQ : ∀ c a w, FI N (stepF X Y Z A src R) c → SG (rB o N B lk k nx) 73 (Has W1 (bsN nx c)) a w → Q .normal a w) : (Code.block 2 (.loop Rly)).wpIn Fence.wide n Try.prog Q a w := by
  have hYb := h.arg.y.2
  refine wpIn_block (wpIn_loop (fun a w => ∃ y c, y ≤ Y ∧ FI N (nextP (stepF X Y Z A src R) (y * Z * X)) c ∧ SG (rC o N B lk k nx y) 73 (Has W1 (bsN nx c)) a w) (fun a _ => Y - slotN 8 a) ⟨0, c, Nat.zero_le _, by rw [Nat.zero_mul, Nat.zero_mul]; exact f0, ha⟩ ?_)
  rintro a w ⟨y, c, hy, f0, ha⟩
  have e5 := ha.slot (t := 8) (v := y) (k := .i64) (by simp)
  have hG := ha.wp
  unfold Rly
  refine wpIn_seq (wpIn_seq (ro7 n w o N B lk k nx y Y (h.bc hG rfl) _ a ha.sr ?_))
  intro a1 h1
  have h1 := h1.sg hG
  refine wpIn_cond (t := decide (y < Y)) (by rw [eval_tmp]; exact h1.kn (24, _) (by simp)) ?_
  by_cases hlt : y < Y
  · rw [decide_eq_true hlt]
    refine wpIn_skip (wpIn_seq (wpIn_block ?_))
    refine wpIn_seq (ro9 n w o N B lk k nx y _ a1 (h1.sub (by simp)).sr ?_)
    intro a2 h2
    refine rnd_z (k := k) n h hlt f0 a2 w _ ((h2.sg hG).sub (by simp)) ?_
    intro c a3 w3 f0 h3
    show (regOf 8 C29).wpIn _ _ _ _ _ _
    have hG3 := h3.wp
    refine ro8 n w3 o N B lk k nx y (by omega) _ a3 h3.sr ?_
    intro a4 h4
    have h4 : SG (rC o N B lk k nx (y + 1)) 73 _ a4 w3 := (h4.sg hG3).sub (by simp)
    exact ⟨⟨y + 1, c, hlt, f0, h4⟩, by rw [e5, h4.slot (t := 8) (v := y + 1) (k := .i64) (by simp)]; omega⟩
  · rw [decide_eq_false hlt]
    obtain rfl : y = Y := by omega
    refine wpIn_exit (hQ c a1 w (f0.congr fun j hj => ?_) (h1.sub (by simp)))
    unfold nextP
    rw [if_pos]
    rw [h.arg.n, Nat.mul_comm X y, Nat.mul_assoc, Nat.mul_comm X Z, ← Nat.mul_assoc] at hj
    exact hj
end
theorem Arg.old {W0 w : World} {X Y Z N g off : Nat} {A : Nat → Int} {bs : List (Nat × Obj)} (h : Arg W0 X Y Z N g off A) (hh : Has W0 bs w) : Arg w X Y Z N g off A := ⟨h.x, h.y, h.z, h.n, h.le, h.row.old hh⟩
theorem rounds_in (n : Nat) (w : World) {X Y Z N g off cap o : Nat} {A : Nat → Int} {src : Nat → Nat} (h : Arg w X Y Z N g off A) (ho : RowI w o N src) (s15 : ∀ i, i < N → src i ≤ 15) : CallsIn Fence.wide n Try.prog 29 #[.agg #[(ii X), (ii Y), (ii Z), .slice (some ⟨g, off, none⟩) N cap], (sl o N N)] w fun e w' =>
    ∃ r, e = .returned ((sl r N N)) ∧ Below w.heap.size w w' ∧ RowI w' r N (rndF (Glow.sides X Y Z) (clA A) src 15) := by
  refine callsIn_of_wp Try.func29 rfl trivial ?_
  show C29.wpIn _ _ _ _ _ _
  rw [C29_eq]
  refine wpIn_seq (ro0 n w X Y Z (.slice (some ⟨g, off, none⟩) N cap) o N _ _ ⟨by simp [Try.ntmps29], rfl, by simp [Try.ntmps29], rfl⟩ ?_)
  intro a1 h1
  have hH := (Has.start w).alloc (.cells #[(ii X), (ii Y), (ii Z), .slice (some ⟨g, off, none⟩) N cap] 24)
  generalize w.alloc (.cells #[(ii X), (ii Y), (ii Z), .slice (some ⟨g, off, none⟩) N cap] 24) = W1 at h1 hH ⊢
  obtain ⟨B, hB⟩ : ∃ B, B = w.heap.size := ⟨_, rfl⟩
  rw [← hB] at h1 hH
  have hs : ∀ i, i < N → ∀ s ∈ Glow.sides X Y Z i, s < N := fun i hi s hs => by have := (Glow.sides_sym X Y Z i s (by rw [← h.n]; exact hi) hs).1; rwa [← h.n] at this
  refine wpIn_seq (ro1 n W1 o N B _ a1 h1 ?_)
  intro a2 h2
  refine wpIn_seq (wpIn_seq (ro2 n W1 o N B o _ a2 h2 ?_))
  intro a3 h3
  refine wpIn_block (wpIn_loop (fun a w' => ∃ k lk, k ≤ 15 ∧ SG (rA o N B lk k) 73 (fun w' => Has w [(B, .cells #[(ii X), (ii Y), (ii Z), .slice (some ⟨g, off, none⟩) N cap] 24 (0, 0))] w' ∧ RowI w' lk N (rndF (Glow.sides X Y Z) (clA A) src k)) a w')
    (fun a _ => 15 - slotN 6 a) ⟨0, o, by omega, (h3.sg ⟨hH, ho.old hH⟩).sub (by simp)⟩ ?_)
  rintro a w' ⟨k, lk, hk, ha⟩
  have e5 := ha.slot (t := 6) (v := k) (k := .i64) (by simp)
  have hG := ha.wp
  unfold Rlk
  refine wpIn_seq (wpIn_seq (ro3 n w' o N B lk k _ a ha.sr ?_))
  intro a4 h4
  by_cases hlt : k < 15
  · refine wpIn_cond (t := true) (by rw [eval_tmp, h4.kn (15, .bool (decide ((k : Int) < 15))) (by simp), decide_eq_true (by omega)]) (wpIn_skip (wpIn_seq (wpIn_block ?_)))
    have hin : RIn w' X Y Z N g off cap B o lk A src (rndF (Glow.sides X Y Z) (clA A) src k) :=
      ⟨h.old hG.1, hG.1.lt List.mem_cons_self, fun k v hv => hG.1.cell List.mem_cons_self hv, ho.old hG.1, hG.2, s15, rndF_le hs s15 k⟩
    refine wpIn_seq (ro5 n (G := fun w2 => w2 = w') o N B lk k h.le (fun nx => Has w' (bsN nx (madeCells #[(ii 0)] N))) (fun w hh => by subst hh; exact (Has.start _).alloc _) _ a4 w' ⟨h4.size, h4.defers, (h4.sub (by simp)).kn, rfl⟩ ?_)
    intro nx a5 w5 h5
    have hG5 := h5.wp
    refine wpIn_seq (wpIn_seq (ro6 n w5 o N B lk k nx _ a5 (h5.sub (by simp)).sr ?_))
    intro a6 h6
    refine rnd_y (k := k) n hin ((FI.made N).congr fun j _ => by unfold nextP; rw [if_neg (by omega)]) a6 w5 _ ((h6.sg hG5).sub (by simp)) ?_
    intro c a7 w7 f7 h7
    show (regOf 19 C29).wpIn _ _ _ _ _ _
    have hG7 := h7.wp
    refine ro19 n w7 o N B lk k nx _ a7 h7.sr ?_
    intro a8 h8
    show (regOf 4 C29).wpIn _ _ _ _ _ _
    refine ro4 n w7 o N B nx k (by omega) _ a8 (h8.sub (by simp)) ?_
    intro a9 h9
    have h9 : SG (rA o N B nx (k + 1)) 73 (fun w' => Has w [(B, .cells #[(ii X), (ii Y), (ii Z), .slice (some ⟨g, off, none⟩) N cap] 24 (0, 0))] w' ∧ RowI w' nx N (rndF (Glow.sides X Y Z) (clA A) src (k + 1))) a9 w7 := (h9.sg ⟨hG.1.below hG7.bel, f7.rowI hG7 List.mem_cons_self⟩).sub (by simp)
    exact ⟨⟨k + 1, nx, by omega, h9⟩, by rw [e5, h9.slot (t := 6) (v := k + 1) (k := .i64) (by simp)]; omega⟩
  · refine wpIn_cond (t := false) (by rw [eval_tmp, h4.kn (15, .bool (decide ((k : Int) < 15))) (by simp), decide_eq_false (by omega)]) (wpIn_exit ?_)
    obtain rfl : k = 15 := by omega
    show (Code.seq (regOf 20 C29) .ret).wpIn _ _ _ _ _ _
    refine wpIn_seq (ro20 n w' lk N _ a4 (h4.sub (by simp)) ?_)
    intro a5 h5
    exact wpIn_ret ⟨h5.defers, _, results_tmp (t := 4) rfl _ _ _, lk, by rw [Array.getD_eq_getD_getElem?, h5.kn (4, sl lk N N) (by simp)], hG.1.bel, hG.2⟩
theorem lamp27_in (n k v : Nat) (hk : k ≤ 255) (hv : v ≤ 255) (W : World) : CallsIn Fence.wide n Try.prog 27 #[.agg #[.int .u8 k, .int .u8 v]] W fun e w' => e = .returned (.int .u8 (K.lamp k v)) ∧ Below W.heap.size W w' :=
  callsIn_wide.2 (Kc.c27 k v (by omega) (by omega) (by omega) (by omega) W)
def xsL (S L : Nat → Nat) (i : Nat) : List Value := (List.range i).flatMap fun j => [.int .u8 (S j), .int .u8 (L j)]
theorem xsL_succ (S L : Nat → Nat) (i : Nat) : xsL S L (i + 1) = xsL S L i ++ [.int .u8 (S i), .int .u8 (L i)] := by
  unfold xsL; rw [List.range_succ, List.flatMap_append]; simp
theorem xsL_len (S L : Nat → Nat) : ∀ i, (xsL S L i).length = i * 2
  | 0 => rfl
  | i + 1 => by rw [xsL_succ, List.length_append, xsL_len S L i]; simp; omega
theorem xsL_get (S L : Nat → Nat) : ∀ n i, i < n → (xsL S L n)[i * 2]? = some (.int .u8 (S i)) ∧ (xsL S L n)[i * 2 + 1]? = some (.int .u8 (L i))
  | 0, i, h => absurd h (Nat.not_lt_zero _)
  | n + 1, i, h => by
    rw [xsL_succ]
    have hl := xsL_len S L n
    by_cases e : i = n
    · subst e
      rw [List.getElem?_append_right (by omega), List.getElem?_append_right (by omega), hl, show i * 2 - i * 2 = 0 from by omega, show i * 2 + 1 - i * 2 = 1 from by omega]
      exact ⟨rfl, rfl⟩
    · rw [List.getElem?_append_left (by omega), List.getElem?_append_left (by omega)]
      exact xsL_get S L n i (by omega)
theorem Has.grownB {W0 w w' : World} {bs : List (Nat × Obj)} {row : Option Nat} {base : Nat} (h : Has W0 bs w) (h2 : w.grownBy w' row) (hr : ∀ k, row = some k → base ≤ k) (h0 : W0.heap.size ≤ base) (hb : ∀ p ∈ bs, p.1 < base) : Has W0 bs w' where
  bel := h.bel.grown h2 h.bel.size (fun k hk => by have := hr k hk; omega)
  blk := fun p hp => (h2.block p.1 (h.lt hp) (fun e => by have := hr _ e.symm; have := hb p hp; omega)).trans (h.blk p hp)
  new := h.new
  nd := h.nd
theorem RowI.grownB {w w' : World} {b N : Nat} {f : Nat → Nat} {row : Option Nat} {base : Nat} (h : RowI w b N f) (h2 : w.grownBy w' row) (hr : ∀ k, row = some k → base ≤ k) (hb : b < base) : RowI w' b N f :=
  ⟨Nat.lt_of_lt_of_le h.lt h2.size, fun i hi => h2.cell (h.cell i hi) (fun e => by have := hr _ e.symm; simp at this; omega)⟩
noncomputable def Ll1 : Code := .seq (.seq (regOf 3 C15) (.cond (.tmp 18) .skip (.exit 0))) (.seq (.block 1 (regOf 5 C15)) (regOf 4 C15))
noncomputable def Ll2 : Code := .seq (.seq (regOf 11 C15) (.cond (.tmp 43) .skip (.exit 2))) (.seq (.block 3 (regOf 13 C15)) (regOf 12 C15))
theorem C15_eq : C15 = .seq (regOf 0 C15) (.seq (regOf 1 C15) (.seq (.seq (regOf 2 C15) (.block 0 (.loop Ll1))) (.seq (regOf 6 C15) (.seq (regOf 7 C15) (.seq (regOf 8 C15) (.seq (regOf 9 C15) (.seq (.seq (regOf 10 C15) (.block 2 (.loop Ll2))) (.seq (regOf 14 C15) .ret)))))))) := by kernel_rfl
section
variable {W0 : World} {X Y Z N g off cap B g3 : Nat} {A : Nat → Int}
abbrev A4l (B g3 N i : Nat) : List (Nat × Value) := [(1, pt B 0), (3, sl g3 N N), (4, ii i)]
theorem lamps_loop (n : Nat) (h : Arg W0 X Y Z N g off A) {c : Array Value} (f0 : FI N (fun _ => 0) c) (a : Act) (w : World) (Q : Po) (ha : SG (A4l B g3 N 0) 61 (Has W0 (bsS X Y Z N g off cap B g3 c)) a w)
    (hQ : ∀ c a w, FI N (lmA A) c → SG [(1, pt B 0), (3, sl g3 N N)] 61 (Has W0 (bsS X Y Z N g off cap B g3 c)) a w → Q .normal a w) : (Code.block 0 (.loop Ll1)).wpIn Fence.wide n Try.prog Q a w := by
  have hN := h.le
  refine wpIn_block (wpIn_loop (fun a w => ∃ i c, i ≤ N ∧ FI N (fun j => if j < i then lmA A j else 0) c ∧ SG (A4l B g3 N i) 61 (Has W0 (bsS X Y Z N g off cap B g3 c)) a w) (fun a _ => N - slotN 4 a) ⟨0, c, Nat.zero_le _, f0.congr fun j _ => by rw [if_neg (by omega)], ha⟩ ?_)
  rintro a w ⟨i, c, hi, f0, ha⟩
  have e5 := ha.slot (t := 4) (v := i) (k := .i64) (by simp)
  have hG := ha.wp
  unfold Ll1
  refine wpIn_seq (wpIn_seq (lg3 n w B g3 N i (some ⟨g, off, none⟩) cap (cbS hG rfl) _ a ha.sr ?_))
  intro a1 h1
  have h1 := h1.sg hG
  refine wpIn_cond (t := decide (i < N)) (by rw [eval_tmp]; exact h1.kn (18, _) (by simp)) ?_
  by_cases hlt : i < N
  · rw [decide_eq_true hlt]
    refine wpIn_skip (wpIn_seq (wpIn_block ?_))
    have hk := h.row.kdle hlt
    have hlm := lmA_le A i
    refine lg5 n (G1 := Has W0 (bsS X Y Z N g off cap B g3 (c.setIfInBounds i ((ii (lmA A i)))))) (Has.stable _ _) B g3 N i g off cap (kd A i) (lv A i) (lmA A i) hlt (widM (by omega)) (fun w hh => cbS hh rfl) (fun w hh => hh.old h.row.lt (h.row.kind hlt)) (fun w hh => hh.old h.row.lt (h.row.level hlt))
      (fun m w _ => by rw [lmA_eq]; exact lamp27_in m _ _ hk.1 hk.2 w) (fun w hh => f0.any hh hlt) (fun w hh => hh.unfrozen List.mem_cons_self _) (fun w hh => hh.set (m := i) _) _ a1 w (h1.sub (by simp)) ?_
    intro a3 w3 h3
    show (regOf 4 C15).wpIn _ _ _ _ _ _
    have hG3 := h3.wp
    refine lg4 n w3 B g3 N i (by omega) _ a3 h3.sr ?_
    intro a4 h4
    have h4 : SG (A4l B g3 N (i + 1)) 61 _ a4 w3 := h4.sg hG3
    refine ⟨⟨i + 1, _, hlt, (f0.set hlt (lmA A i)).congr fun j _ => ?_, h4⟩, by rw [e5, h4.slot (t := 4) (v := i + 1) (k := .i64) (by simp)]; omega⟩
    by_cases e : j = i
    · subst e; rw [if_pos rfl, if_pos (by omega)]
    · rw [if_neg e]
      by_cases e2 : j < i
      · rw [if_pos e2, if_pos (by omega)]
      · rw [if_neg e2, if_neg (by omega)]
  · rw [decide_eq_false hlt]
    exact wpIn_exit (hQ c a1 w (f0.congr fun j hj => by rw [if_pos (by omega)]) (h1.sub (by simp)))
abbrev A9l (B r1 r2 N : Nat) (q : Value) (i : Nat) : List (Nat × Value) := [(1, pt B 0), (6, sl r1 N N), (7, sl r2 N N), (8, q), (9, ii i)]
abbrev HL (W0 : World) (X Y Z N g off cap B g3 : Nat) (c : Array Value) (r1 r2 : Nat) (S L : Nat → Nat) (base : Nat) (q : Value) (i : Nat) : World → Prop := fun w => (Has W0 (bsS X Y Z N g off cap B g3 c) w ∧ RowI w r1 N S ∧ RowI w r2 N L) ∧ w.ownsRow base 37 2 q i (xsL S L i) ∧ base ≤ w.heap.size
theorem out_loop (n : Nat) {c : Array Value} {r1 r2 base : Nat} {S L : Nat → Nat} (hN : N ≤ 262144) (hS15 : ∀ i, i < N → S i ≤ 15) (hL15 : ∀ i, i < N → L i ≤ 15) (hw : W0.heap.size ≤ base) (hg3 : g3 < base) (hB : B < base) (hr1 : r1 < base) (hr2 : r2 < base) {q : Value} (a : Act) (w : World) (Q : Po)
    (ha : SG (A9l B r1 r2 N q 0) 61 (HL W0 X Y Z N g off cap B g3 c r1 r2 S L base q 0) a w)
    (hQ : ∀ q a w, SG [(8, q)] 61 (HL W0 X Y Z N g off cap B g3 c r1 r2 S L base q N) a w → Q .normal a w) : (Code.block 2 (.loop Ll2)).wpIn Fence.wide n Try.prog Q a w := by
  refine wpIn_block (wpIn_loop (fun a w => ∃ i q, i ≤ N ∧ SG (A9l B r1 r2 N q i) 61 (HL W0 X Y Z N g off cap B g3 c r1 r2 S L base q i) a w) (fun a _ => N - slotN 9 a) ⟨0, q, Nat.zero_le _, ha⟩ ?_)
  rintro a w ⟨i, q, hi, ha⟩
  have e5 := ha.slot (t := 9) (v := i) (k := .i64) (by simp)
  have hG := ha.wp
  unfold Ll2
  refine wpIn_seq (wpIn_seq (lg11 n w B r1 r2 N q i (some ⟨g, off, none⟩) cap (cbS hG.1.1 rfl) _ a ha.sr ?_))
  intro a1 h1
  have h1 := h1.sg hG
  refine wpIn_cond (t := decide (i < N)) (by rw [eval_tmp]; exact h1.kn (43, _) (by simp)) ?_
  by_cases hlt : i < N
  · rw [decide_eq_true hlt]
    refine wpIn_skip (wpIn_seq (wpIn_block ?_))
    refine lg13 n (G := HL W0 X Y Z N g off cap B g3 c r1 r2 S L base q i) (fun w1 w2 hh hb => ⟨⟨hh.1.1.below hb, hh.1.2.1.below hb, hh.1.2.2.below hb⟩, ownsRow_below hh.2.1 hb, Nat.le_trans hh.2.2 hb.size⟩) B r1 r2 N i (S i) (L i) base i q (xsL S L i) hlt (hS15 i hlt) (hL15 i hlt) (by omega)
      (fun w hh => hh.1.2.1.cell i hlt) (fun w hh => hh.1.2.2.cell i hlt) (fun w hh => hh.2.1) (fun w hh => hh.2.2) (fun q' => HL W0 X Y Z N g off cap B g3 c r1 r2 S L base q' (i + 1)) (fun w1 w2 q' hh ho hgr => ?_) _ a1 w (h1.sub (by simp)) ?_
    · have hr : ∀ k, q.ownBlock = some k → base ≤ k := fun k hk => (hh.2.1.lt k hk).1
      refine ⟨⟨hh.1.1.grownB hgr hr hw (fun p hp => ?_), hh.1.2.1.grownB hgr hr hr1, hh.1.2.2.grownB hgr hr hr2⟩, by rw [xsL_succ]; exact ho, Nat.le_trans hh.2.2 hgr.size⟩
      simp only [List.mem_cons, List.not_mem_nil, or_false] at hp
      rcases hp with rfl | rfl
      · exact hg3
      · exact hB
    · intro q' a3 w3 h3
      show (regOf 12 C15).wpIn _ _ _ _ _ _
      have hG3 := h3.wp
      refine lg12 n w3 B r1 r2 N q' i (by omega) _ a3 h3.sr ?_
      intro a4 h4
      have h4 : SG (A9l B r1 r2 N q' (i + 1)) 61 _ a4 w3 := h4.sg hG3
      exact ⟨⟨i + 1, q', hlt, h4⟩, by rw [e5, h4.slot (t := 9) (v := i + 1) (k := .i64) (by simp)]; omega⟩
  · rw [decide_eq_false hlt]
    obtain rfl : i = N := by omega
    exact wpIn_exit (hQ q a1 w (h1.sub (by simp)))
end
theorem skyS_le (cl : Nat → Bool) (L Y i : Nat) : skyS cl L Y i ≤ 15 := by unfold skyS; split <;> omega
theorem light15_in (n : Nat) (w : World) {X Y Z N g off cap : Nat} {A : Nat → Int} (h : Arg w X Y Z N g off A) : CallsIn Fence.wide n Try.prog 15 #[.agg #[(ii X), (ii Y), (ii Z), .slice (some ⟨g, off, none⟩) N cap]] w fun e w' =>
    ∃ g5 c5, e = .returned ((sl g5 N c5)) ∧ Below w.heap.size w w' ∧ g5 < w'.heap.size ∧ ∀ i, i < N → w'.cell? ⟨g5, i * 2, none⟩ = some (.int .u8 ((skyL X Y Z (clA A)).getD i 0 : Nat)) ∧ w'.cell? ⟨g5, i * 2 + 1, none⟩ = some (.int .u8 ((lampL X Y Z (clA A) (lmA A)).getD i 0 : Nat)) := by
  refine callsIn_of_wp Try.func15 rfl trivial ?_
  show C15.wpIn _ _ _ _ _ _
  rw [C15_eq]
  refine wpIn_seq (lg0 n w X Y Z (.slice (some ⟨g, off, none⟩) N cap) _ _ ⟨by simp [Try.ntmps15], rfl, by simp [Try.ntmps15], rfl⟩ ?_)
  intro a1 h1
  have hH := (Has.start w).alloc (.cells #[(ii X), (ii Y), (ii Z), .slice (some ⟨g, off, none⟩) N cap] 24)
  generalize w.alloc (.cells #[(ii X), (ii Y), (ii Z), .slice (some ⟨g, off, none⟩) N cap] 24) = W1 at h1 hH ⊢
  obtain ⟨B, hB⟩ : ∃ B, B = w.heap.size := ⟨_, rfl⟩
  rw [← hB] at h1 hH
  have hN := h.le
  have hN1 : 1 ≤ N := by rw [h.n]; exact Nat.mul_le_mul (Nat.mul_le_mul h.x.1 h.y.1) h.z.1
  refine wpIn_seq (lg1 n B N (some ⟨g, off, none⟩) cap (fun w hh => hh.cell List.mem_cons_self rfl) h.le (fun g3 => Has w (bsS X Y Z N g off cap B g3 (madeCells #[(ii 0)] N))) (fun w hh => hh.alloc _) _ a1 W1 (h1.sg hH) ?_)
  intro g3 a2 w2 h2
  have hG2 := h2.wp
  refine wpIn_seq (wpIn_seq (lg2 n w2 B g3 N _ a2 h2.sr ?_))
  intro a3 h3
  refine lamps_loop n h (FI.made N) a3 w2 _ (h3.sg hG2) ?_
  intro c a4 w4 f4 h4
  have hs : ∀ i, i < N → ∀ s ∈ Glow.sides X Y Z i, s < N := fun i hi s hs => by have := (Glow.sides_sym X Y Z i s (by rw [← h.n]; exact hi) hs).1; rwa [← h.n] at this
  refine wpIn_seq (lg6 n B g3 N X Y Z (some ⟨g, off, none⟩) cap (fun o w' => Has w (bsS X Y Z N g off cap B g3 c) w' ∧ RowI w' o N (skyS (clA A) (X * Z) Y)) (fun w hh => cbS hh rfl) (fun w hh => cbS hh rfl) (fun w hh => cbS hh rfl) (fun w hh => cbS hh rfl)
    (fun m w' hh => (sources_in m w' (h.old hh)).mono fun _ _ ⟨r, k1, k2, _, k4⟩ => ⟨r, k1, hh.below k2, k4⟩) _ a4 w4 h4 ?_)
  intro o a5 w5 h5
  refine wpIn_seq (lg7 n B g3 N o X Y Z (some ⟨g, off, none⟩) cap (fun r1 w' => Has w (bsS X Y Z N g off cap B g3 c) w' ∧ RowI w' r1 N (rndF (Glow.sides X Y Z) (clA A) (skyS (clA A) (X * Z) Y) 15)) (fun w hh => cbS hh.1 rfl) (fun w hh => cbS hh.1 rfl) (fun w hh => cbS hh.1 rfl) (fun w hh => cbS hh.1 rfl)
    (fun m w' hh => (rounds_in m w' (h.old hh.1) hh.2 (fun i _ => skyS_le _ _ _ i)).mono fun _ _ ⟨r, k1, k2, k3⟩ => ⟨r, k1, hh.1.below k2, k3⟩) _ a5 w5 h5 ?_)
  intro r1 a6 w6 h6
  refine wpIn_seq (lg8 n B g3 N r1 X Y Z (some ⟨g, off, none⟩) cap (fun r2 w' => Has w (bsS X Y Z N g off cap B g3 c) w' ∧ RowI w' r1 N (rndF (Glow.sides X Y Z) (clA A) (skyS (clA A) (X * Z) Y) 15) ∧ RowI w' r2 N (rndF (Glow.sides X Y Z) (clA A) (lmA A) 15)) (fun w hh => cbS hh.1 rfl) (fun w hh => cbS hh.1 rfl) (fun w hh => cbS hh.1 rfl) (fun w hh => cbS hh.1 rfl)
    (fun m w' hh => (rounds_in m w' (h.old hh.1) (f4.rowI hh.1 List.mem_cons_self) (fun i _ => lmA_le A i)).mono fun _ _ ⟨r, k1, k2, k3⟩ => ⟨r, k1, hh.1.below k2, hh.2.below k2, k3⟩) _ a6 w6 h6 ?_)
  intro r2 a7 w7 h7
  have hG7 := h7.wp
  have s15 := (sky_fix (cl := clA A) h.n.symm)
  have l15 := (lamp_fix (cl := clA A) h.n.symm (lmA_le A))
  have eS : ∀ i, i < N → rndF (Glow.sides X Y Z) (clA A) (skyS (clA A) (X * Z) Y) 15 i = (skyL X Y Z (clA A)).getD i 0 := fun i hi => Glow.rounds_fix s15.2 (fun i _ => s15.1 i) hs (rndF (Glow.sides X Y Z) (clA A) (skyS (clA A) (X * Z) Y)) (fun i _ => skyS_le _ _ _ i) (fun i _ _ => Nat.le_refl _) (fun k i _ => rfl) i hi
  have eL : ∀ i, i < N → rndF (Glow.sides X Y Z) (clA A) (lmA A) 15 i = (lampL X Y Z (clA A) (lmA A)).getD i 0 := fun i hi => Glow.rounds_fix l15.2 (fun i _ => l15.1 i) hs (rndF (Glow.sides X Y Z) (clA A) (lmA A)) (fun i _ => lmA_le A i) (fun i _ _ => Nat.le_refl _) (fun k i _ => rfl) i hi
  refine wpIn_seq (lg9 n w7 B r1 r2 N _ a7 h7.sr ?_)
  intro a8 h8
  refine wpIn_seq (wpIn_seq (lg10 n w7 B r1 r2 N (.slice none 0 0) _ a8 h8 ?_))
  intro a9 h9
  refine out_loop n h.le (S := fun i => (skyL X Y Z (clA A)).getD i 0) (L := fun i => (lampL X Y Z (clA A) (lmA A)).getD i 0) (fun i _ => s15.1 i) (fun i _ => l15.1 i) hG7.1.bel.size (hG7.1.lt List.mem_cons_self) (hG7.1.lt (List.mem_cons_of_mem _ List.mem_cons_self)) hG7.2.1.lt hG7.2.2.lt a9 w7 _
    (h9.sg ⟨⟨hG7.1, hG7.2.1.congr eS, hG7.2.2.congr eL⟩, World.ownsRow_nil _ _ _ _, Nat.le_refl _⟩) ?_
  intro q a10 w10 h10
  have hG10 := h10.wp
  refine wpIn_seq (lg14 n w10 q _ a10 h10.sr ?_)
  intro a11 h11
  obtain ⟨_, k2⟩ := hG10.2.1
  rcases k2 with ⟨_, k2⟩ | ⟨g5, c5, cur, rfl, _, k3, _, _, _, k4⟩
  · omega
  refine wpIn_ret ⟨h11.defers, _, results_tmp (t := 2) rfl _ _ _, g5, c5, by rw [Array.getD_eq_getD_getElem?, h11.kn (2, sl g5 N c5) (by simp)], hG10.1.1.bel, (Array.getElem?_eq_some_iff.1 k3).1, fun i hi => ?_⟩
  have k5 := xsL_get (fun i => (skyL X Y Z (clA A)).getD i 0) (fun i => (lampL X Y Z (clA A) (lmA A)).getD i 0) N i hi
  rw [← k4, List.getElem?_take, if_pos (by omega), List.getElem?_take, if_pos (by omega)] at k5
  simp only [World.cell?, k3]
  simpa using k5
section
variable {W0 w : World} {bs : List (Nat × Obj)} {X Y Z N g off g2 c2 p : Nat} {A : Nat → Int} {cur : Array Value}
def newsA (A : Nat → Int) (N : Nat) : List Value := (List.range (N * 2)).map fun j => .int .u8 (A j)
theorem newsA_get {j : Nat} {u : Value} (h : (newsA A N)[j]? = some u) : j < N * 2 ∧ u = .int .u8 (A j) := by
  unfold newsA at h
  rw [List.getElem?_map, Option.map_eq_some_iff] at h
  obtain ⟨k, hk, rfl⟩ := h
  obtain ⟨h1, h2⟩ := List.getElem?_eq_some_iff.1 hk
  rw [List.length_range] at h1
  rw [List.getElem_range] at h2
  subst h2
  exact ⟨h1, rfl⟩
theorem newsA_len : (newsA A N).length = N * 2 := by simp [newsA]
theorem newsA_one : ∀ u ∈ newsA A N, u.oneCell' = true := by
  intro u hu
  unfold newsA at hu
  obtain ⟨j, _, rfl⟩ := List.mem_map.1 hu
  rfl
theorem row_of {M : Nat} {o : Option Addr} {len c : Nat} (hs : Sx.SlIn W0 [.u8, .u8] M (.slice o len c)) (h : 0 < len) : ∃ (g off : Nat) (A : Nat → Int), o = some ⟨g, off, none⟩ ∧ Row2 W0 g off len A := by
  cases hs with
  | nil => omega
  | empty => omega
  | row g off len cap A h0 hc hl hA hr =>
    obtain ⟨cs, t, fr, k1, k2, k3⟩ := hr.blk
    refine ⟨g, off, A, rfl, (Array.getElem?_eq_some_iff.1 k1).1, fun j hj => ?_, fun j hj => ?_⟩
    · have := k3 j hj
      simp only [World.cell?, k1, this]
      have : j % 2 = 0 ∨ j % 2 = 1 := by omega
      rcases this with e | e <;> simp [e]
    · have := hA j
      have e : j % 2 = 0 ∨ j % 2 = 1 := by omega
      simp only [List.length_cons, List.length_nil] at this
      rcases e with e | e <;> simp [e, IntKind.min, IntKind.max, IntKind.signed, IntKind.bits] at this <;> omega
end
def OwnP (w : World) (qp : Option Addr) (len : Nat) (A : Nat → Int) : Prop := 0 < len → ∃ g2, qp = some ⟨g2, 0, none⟩ ∧ g2 < w.heap.size ∧ ∀ j, j < len * 2 → w.cell? ⟨g2, j, none⟩ = some (.int .u8 (A j))
theorem OwnP.below {w w' : World} {qp : Option Addr} {len : Nat} {A : Nat → Int} (h : OwnP w qp len A) (hb : Below w.heap.size w w') : OwnP w' qp len A := fun h0 => by
  obtain ⟨g2, k1, k2, k3⟩ := h h0
  exact ⟨g2, k1, Nat.lt_of_lt_of_le k2 hb.size, fun j hj => (hb.cell (p := ⟨g2, j, none⟩) k2).trans (k3 j hj)⟩
abbrev bsB (X Y Z : Int) (o : Option Addr) (len c B : Nat) : List (Nat × Obj) := [(B, .cells #[(ii X), (ii Y), (ii Z), .slice o len c] 24 (0, 0))]
theorem cbB {W0 w : World} {X Y Z : Int} {o : Option Addr} {len c B : Nat} (hh : Has W0 (bsB X Y Z o len c B) w) {k : Nat} {v : Value} (hv : (#[(ii X), (ii Y), (ii Z), .slice o len c] : Array Value)[k]? = some v) : w.cell? ⟨B, k, none⟩ = some v := hh.cell (t := 24) (fr := (0, 0)) (by simp) hv
theorem copy_in (n M : Nat) (hM : M * 2 ≤ 140737488355328) {W0 : World} {X Y Z er : Int} {o : Option Addr} {len c B : Nat} (hs : Sx.SlIn W0 [.u8, .u8] M (.slice o len c)) :
    ∃ A : Nat → Int, (0 < len → ∃ g off, o = some ⟨g, off, none⟩ ∧ Row2 W0 g off len A) ∧ ∀ (Q : Po) (a : Act) (w : World), SG [(1, pt B 0), (3, ii er), (4, .slice none 0 0)] 71 (Has W0 (bsB X Y Z o len c B)) a w →
      (∀ qp qc a w, SG [(1, pt B 0), (3, ii er), (4, .slice qp len qc)] 71 (fun w => Has W0 (bsB X Y Z o len c B) w ∧ OwnP w qp len A) a w → Q .normal a w) → (regOf 5 C3).wpIn Fence.wide n Try.prog Q a w := by
  by_cases h0 : 0 < len
  · obtain ⟨g, off, A, rfl, hrow⟩ := row_of hs h0
    have hlen : len ≤ M := by cases hs <;> first | exact absurd h0 (Nat.lt_irrefl _) | assumption
    refine ⟨A, fun _ => ⟨g, off, rfl, hrow⟩, fun Q a w h hQ => ?_⟩
    refine gl5 n B er g off len c (fun w hh => cbB hh rfl) (newsA A len) newsA_len (fun w hh j u hj => by
        obtain ⟨k1, rfl⟩ := newsA_get hj
        exact hh.old hrow.lt (hrow.cell j k1)) newsA_one (by omega) (fun q w' => ∃ qp qc, q = .slice qp len qc ∧ Has W0 (bsB X Y Z (some ⟨g, off, none⟩) len c B) w' ∧ OwnP w' qp len A) (fun w1 w2 q hh hb ho _ => ?_) _ a w h ?_
    · obtain ⟨_, k2⟩ := ho
      rcases k2 with ⟨_, k2⟩ | ⟨g2, c2, cur, rfl, _, k3, _, _, _, k4⟩
      · omega
      refine ⟨_, _, rfl, hh.below hb, fun _ => ⟨g2, rfl, (Array.getElem?_eq_some_iff.1 k3).1, fun j hj => ?_⟩⟩
      have k5 : (newsA A len)[j]? = some (.int .u8 (A j)) := by unfold newsA; simp [hj]
      rw [← k4, List.getElem?_take, if_pos hj] at k5
      simp only [World.cell?, k3]
      simpa using k5
    · intro q a2 w2 h2
      obtain ⟨qp, qc, rfl, k1, k2⟩ := h2.wp
      exact hQ qp qc a2 w2 ⟨h2.size, h2.defers, h2.kn, k1, k2⟩
  · obtain rfl : len = 0 := by omega
    refine ⟨fun _ => 0, fun h => absurd h h0, fun Q a w h hQ => ?_⟩
    cases hs with
    | nil =>
      have hG := h.wp
      refine gl5n n w B er (cbB hG rfl) _ a h.sr ?_
      intro a2 h2
      exact hQ none 0 a2 w (h2.sg ⟨hG, fun h => absurd h (Nat.lt_irrefl _)⟩)
    | empty g off cap =>
      refine gl5 n B er g off 0 c (fun w hh => cbB hh rfl) [] rfl (fun w hh j u hj => by cases hj) (fun u hu => by cases hu) (by omega) (fun q w' => ∃ qp qc, q = .slice qp 0 qc ∧ Has W0 (bsB X Y Z (some ⟨g, off, none⟩) 0 c B) w') (fun w1 w2 q hh hb ho _ => ?_) _ a w h ?_
      · obtain ⟨qp, qc, rfl, _⟩ := ownsRow_shape ho
        exact ⟨qp, qc, rfl, hh.below hb⟩
      · intro q a2 w2 h2
        obtain ⟨qp, qc, rfl, k1⟩ := h2.wp
        exact hQ qp qc a2 w2 ⟨h2.size, h2.defers, h2.kn, k1, fun h => absurd h (Nat.lt_irrefl _)⟩
    | row _ _ _ _ _ hpos => exact absurd hpos (Nat.lt_irrefl _)
noncomputable def Lp3 : Code := .seq (.seq (regOf 10 C3) (.cond (.tmp 42) .skip (.exit 0))) (.seq (.block 1 (.seq (regOf 12 C3) (.cond (.tmp 54) (.seq (regOf 13 C3) .ret) .skip))) (regOf 11 C3))
theorem C3_eq : C3 = .seq (regOf 0 C3) (.seq (regOf 1 C3) (.seq (.seq (regOf 2 C3) (.cond (.tmp 18) (.seq (regOf 3 C3) .ret) .skip)) (.seq (regOf 4 C3) (.seq (regOf 5 C3) (.seq (regOf 6 C3) (.seq (.seq (regOf 7 C3) (.cond (.tmp 38) (.seq (regOf 8 C3) .ret) .skip)) (.seq (.seq (regOf 9 C3) (.block 0 (.loop Lp3))) (.seq (.seq (regOf 14 C3) (.cond (.tmp 56) (.seq (regOf 15 C3) .ret) .skip)) (.seq (regOf 16 C3) (.seq (regOf 17 C3) .ret)))))))))) := by kernel_rfl
abbrev A7g (B : Nat) (er : Int) (qp : Option Addr) (len qc : Nat) (lv : Value) (i : Nat) : List (Nat × Value) := [(1, pt B 0), (3, ii er), (4, .slice qp len qc), (5, lv), (7, ii i)]
theorem stay_loop (n : Nat) {G : World → Prop} (hS : Stable G) {B : Nat} {er : Int} {qp : Option Addr} {len qc : Nat} {lw : Value} (hlen : len ≤ 90000000000000) (hc : 0 < len → ∃ (g2 g off cap : Nat) (A : Nat → Int), qp = some ⟨g2, 0, none⟩ ∧ ∀ w, G w → w.cell? ⟨B, 3, none⟩ = some (.slice (some ⟨g, off, none⟩) len cap) ∧ Row2 w g2 0 len A ∧ Row2 w g off len A)
    (a : Act) (w : World) (Q : Po) (ha : SG (A7g B er qp len qc lw 0) 71 G a w) (hQ : ∀ a w, SG [(1, pt B 0), (3, ii er), (5, lw)] 71 G a w → Q .normal a w) : (Code.block 0 (.loop Lp3)).wpIn Fence.wide n Try.prog Q a w := by
  refine wpIn_block (wpIn_loop (fun a w => ∃ i, i ≤ len ∧ SG (A7g B er qp len qc lw i) 71 G a w) (fun a _ => len - slotN 7 a) ⟨0, Nat.zero_le _, ha⟩ ?_)
  rintro a w ⟨i, hi, ha⟩
  have e5 := ha.slot (t := 7) (v := i) (k := .i64) (by simp)
  have hG := ha.wp
  unfold Lp3
  refine wpIn_seq (wpIn_seq (gl10 n w B er qp len qc lw i _ a ha.sr ?_))
  intro a1 h1
  have h1 := h1.sg hG
  refine wpIn_cond (t := decide (i < len)) (by rw [eval_tmp]; exact h1.kn (42, _) (by simp)) ?_
  by_cases hlt : i < len
  · rw [decide_eq_true hlt]
    obtain ⟨g2, g, off, cap, A, rfl, hcl⟩ := hc (by omega)
    refine wpIn_skip (wpIn_seq (wpIn_block ?_))
    refine wpIn_seq (gl12 n hS B er g2 len qc lw i g off cap (kd A i) (lv A i) hlt (fun w hh => by have := (hcl w hh).2.1.kind hlt; rwa [Nat.zero_add] at this) (fun w hh => by have := (hcl w hh).2.1.level hlt; rwa [Nat.zero_add] at this) (fun w hh => (hcl w hh).1) (fun w hh => (hcl w hh).2.2.kind hlt) (fun w hh => (hcl w hh).2.2.level hlt) _ a1 w (h1.sub (by simp)) ?_)
    intro a3 w3 h3
    have hG3 := h3.wp
    refine wpIn_cond (t := false) (by rw [eval_tmp]; exact h3.kn (54, .bool false) (by simp)) (wpIn_skip ?_)
    show (regOf 11 C3).wpIn _ _ _ _ _ _
    refine gl11 n w3 B er (some ⟨g2, 0, none⟩) len qc lw i (by omega) _ a3 (h3.sub (by simp)).sr ?_
    intro a6 h6
    have h6 : SG (A7g B er (some ⟨g2, 0, none⟩) len qc lw (i + 1)) 71 G a6 w3 := h6.sg hG3
    exact ⟨⟨i + 1, hlt, h6⟩, by rw [e5, h6.slot (t := 7) (v := i + 1) (k := .i64) (by simp)]; omega⟩
  · rw [decide_eq_false hlt]
    exact wpIn_exit (hQ a1 w (h1.sub (by simp)))
theorem lights_law (n M : Nat) (hM : M * 2 ≤ 140737488355328) (W0 : World) (X Y Z : Int) (sv : Value) (hs : Sx.SlIn W0 [.u8, .u8] M sv) : CallsIn Fence.wide n Try.prog 3 #[.agg #[(ii X), (ii Y), (ii Z), sv]] W0 fun e w' => e = .returned (.bool true) ∧ Below W0.heap.size W0 w' := by
  obtain ⟨o, len, c, rfl⟩ : ∃ o len c, sv = .slice o len c := by cases hs <;> exact ⟨_, _, _, rfl⟩
  have hlen : len ≤ M := by cases hs <;> first | exact Nat.zero_le _ | assumption
  refine callsIn_of_wp Try.func3 rfl trivial ?_
  show C3.wpIn _ _ _ _ _ _
  rw [C3_eq]
  refine wpIn_seq (gl0 n W0 X Y Z (.slice o len c) _ _ ⟨by simp [Try.ntmps3], rfl, by simp [Try.ntmps3], rfl⟩ ?_)
  intro a1 h1
  have hH : Has W0 (bsB X Y Z o len c W0.heap.size) _ := (Has.start W0).alloc (.cells #[(ii X), (ii Y), (ii Z), .slice o len c] 24)
  generalize W0.alloc (.cells #[(ii X), (ii Y), (ii Z), .slice o len c] 24) = W1 at h1 hH ⊢
  obtain ⟨B, hB⟩ : ∃ B, B = W0.heap.size := ⟨_, rfl⟩
  rw [← hB] at h1 hH
  have ret : ∀ a w, SG [(2, .bool true)] 71 (fun w => Below W0.heap.size W0 w) a w → bodyPost Try.prog Try.f3 (fun e w' => e = .returned (.bool true) ∧ Below W0.heap.size W0 w') .ret a w := fun a w h =>
    ⟨h.defers, _, results_tmp (t := 2) rfl _ _ _, by rw [Array.getD_eq_getD_getElem?, h.kn (2, .bool true) (by simp)], h.wp⟩
  have hSB : Stable fun w => Below W0.heap.size W0 w := fun w1 w2 hh hb => hh.trans (hb.mono hh.size)
  refine wpIn_seq (gl1 n (Has.stable _ _) B X Y Z o len c (chk X Y Z len) (fun w hh => cbB hh rfl) (fun w hh => cbB hh rfl) (fun w hh => cbB hh rfl) (fun w hh => cbB hh rfl) (fun m w _ => check12_in m w X Y Z o len c) _ a1 W1 (h1.sg hH) ?_)
  intro a2 w2 h2
  have hG2 := h2.wp
  obtain ⟨A, hrow, hcopy⟩ := copy_in n M hM (X := X) (Y := Y) (Z := Z) (er := chk X Y Z len) (B := B) hs
  by_cases hc : chk X Y Z len = 0
  · have hz := chk_zero hc
    have h0 : 0 < len := by
      have h7 : (1 : Int) * 1 * 1 ≤ X * Y * Z := Int.mul_le_mul (Int.mul_le_mul hz.1.1 hz.2.1.1 (by decide) (by omega)) hz.2.2.1.1 (by decide) (Int.mul_nonneg (by omega) (by omega))
      omega
    obtain ⟨g, off, rfl, hrw⟩ := hrow h0
    obtain ⟨x, rfl⟩ : ∃ x : Nat, X = x := ⟨X.toNat, by omega⟩
    obtain ⟨y, rfl⟩ : ∃ y : Nat, Y = y := ⟨Y.toNat, by omega⟩
    obtain ⟨z, rfl⟩ : ∃ z : Nat, Z = z := ⟨Z.toNat, by omega⟩
    have h6 : len = x * y * z := by
      have : ((x * y * z : Nat) : Int) = (len : Int) := by rw [Int.natCast_mul, Int.natCast_mul]; exact hz.2.2.2.1
      omega
    have h : Arg W0 x y z len g off A := ⟨by omega, by omega, by omega, h6, hz.2.2.2.2, hrw⟩
    rw [hc] at h2 hcopy
    refine wpIn_seq (wpIn_seq (gl2b n w2 B (some ⟨g, off, none⟩) len c (cbB hG2 rfl) _ a2 h2.sr ?_))
    intro a3 h3
    have h3 := h3.sg hG2
    by_cases hl : (6000 : Int) < len
    · refine wpIn_cond (t := true) (by rw [eval_tmp, h3.kn (18, .bool (decide ((6000 : Int) < len))) (by simp)]; simp; omega) ?_
      refine wpIn_seq (gl3 n (G := fun w => Below W0.heap.size W0 w) hSB (fun m w _ => works_in m w) _ a3 w2 ⟨h3.size, h3.defers, by simp, hG2.bel⟩ ?_)
      intro a4 w4 h4
      exact wpIn_ret (ret a4 w4 h4)
    refine wpIn_cond (t := false) (by rw [eval_tmp, h3.kn (18, .bool (decide ((6000 : Int) < len))) (by simp)]; simp; omega) (wpIn_skip ?_)
    refine wpIn_seq (gl4 n w2 B 0 _ a3 (h3.sub (by simp)).sr ?_)
    intro a4 h4
    refine wpIn_seq (hcopy _ a4 w2 (h4.sg hG2) ?_)
    intro qp qc a5 w5 h5
    obtain ⟨g2, rfl, k2, k3⟩ := h5.wp.2 h0
    have hr2 : ∀ {w}, OwnP w (some ⟨g2, 0, none⟩) len A → Row2 w g2 0 len A := fun hh => by
      obtain ⟨g2', e, k2, k3⟩ := hh h0
      cases e
      exact ⟨k2, fun j hj => by rw [Nat.zero_add]; exact k3 j hj, hrw.rng⟩
    refine wpIn_seq (gl6 n B 0 (some ⟨g2, 0, none⟩) len qc x y z (fun r => (sl r len len)) 0 (fun r w => Has W0 (bs5 x y z len g off c r B A) w ∧ OwnP w (some ⟨g2, 0, none⟩) len A) (fun w hh => cbB hh.1 rfl) (fun w hh => cbB hh.1 rfl) (fun w hh => cbB hh.1 rfl)
      (fun m w hh => (light_has m (W0 := w) (hr2 hh.2) h.x h.y h.z h.n h.le (Has.start w)).mono fun _ w' ⟨r, e1, e2⟩ => ⟨r, e1, hh.1.add e2.bel (e2.new _ List.mem_cons_self) (e2.blk _ List.mem_cons_self), hh.2.below e2.bel⟩) _ a5 w5 h5 ?_)
    intro r a6 w6 h6
    have hG6 := h6.wp
    refine wpIn_seq (wpIn_seq (gl7 n w6 B 0 (some ⟨g2, 0, none⟩) len qc ((sl r len len)) _ a6 h6.sr ?_))
    intro a7 h7
    refine wpIn_cond (t := false) (by rw [eval_tmp]; exact h7.kn (38, .bool false) (by simp)) (wpIn_skip ?_)
    refine wpIn_seq (wpIn_seq (gl9 n w6 B 0 (some ⟨g2, 0, none⟩) len qc ((sl r len len)) _ a7 (h7.sub (by simp)) ?_))
    intro a8 h8
    have hSG : Stable fun w => Has W0 (bs5 x y z len g off c r B A) w ∧ OwnP w (some ⟨g2, 0, none⟩) len A := fun w1 w2 hh hb => ⟨hh.1.below hb, hh.2.below hb⟩
    refine stay_loop n hSG (by omega) (fun _ => ⟨g2, g, off, c, A, rfl, fun w hh => ⟨boxs5 (fun _ h => h) hh.1 rfl, hr2 hh.2, hrw.old hh.1⟩⟩) a8 w6 _ (h8.sg hG6) ?_
    intro a9 w9 h9
    have hG9 := h9.wp
    refine wpIn_seq (wpIn_seq (gl14 n w9 B 0 ((sl r len len)) _ a9 h9.sr ?_))
    intro a10 h10
    refine wpIn_cond (t := false) (by rw [eval_tmp]; exact h10.kn (56, .bool ((0 : Int) != 0)) (by simp)) (wpIn_skip ?_)
    refine wpIn_seq (gl16 n (G := fun w => Has W0 (bs5 x y z len g off c r B A) w ∧ OwnP w (some ⟨g2, 0, none⟩) len A) B ((sl r len len)) x y z (some ⟨g, off, none⟩) len c (fun g5 _ w => Has W0 (bs5 x y z len g off c r B A) w ∧ g5 < w.heap.size ∧ ∀ i, i < len → w.cell? ⟨g5, i * 2, none⟩ = some (.int .u8 ((skyL x y z (clA A)).getD i 0 : Nat)) ∧ w.cell? ⟨g5, i * 2 + 1, none⟩ = some (.int .u8 ((lampL x y z (clA A) (lmA A)).getD i 0 : Nat)))
      (fun w hh => boxs5 (fun _ h => h) hh.1 rfl) (fun w hh => boxs5 (fun _ h => h) hh.1 rfl) (fun w hh => boxs5 (fun _ h => h) hh.1 rfl) (fun w hh => boxs5 (fun _ h => h) hh.1 rfl)
      (fun m w hh => (light15_in m w (h.old hh.1)).mono fun _ _ ⟨g5, c5, e1, e2, e3, e4⟩ => ⟨g5, c5, e1, hh.1.below e2, e3, e4⟩) _ a10 w9 ((h10.sg hG9).sub (by simp)) ?_)
    intro g5 c5 a11 w11 h11
    refine wpIn_seq (gl17 n (G := fun w => Has W0 (bs5 x y z len g off c r B A) w ∧ g5 < w.heap.size ∧ ∀ i, i < len → w.cell? ⟨g5, i * 2, none⟩ = some (.int .u8 ((skyL x y z (clA A)).getD i 0 : Nat)) ∧ w.cell? ⟨g5, i * 2 + 1, none⟩ = some (.int .u8 ((lampL x y z (clA A) (lmA A)).getD i 0 : Nat)))
      (fun w1 w2 hh hb => ⟨hh.1.below hb, Nat.lt_of_lt_of_le hh.2.1 hb.size, fun i hi => ⟨(hb.cell (p := ⟨g5, i * 2, none⟩) hh.2.1).trans (hh.2.2 i hi).1, (hb.cell (p := ⟨g5, i * 2 + 1, none⟩) hh.2.1).trans (hh.2.2 i hi).2⟩⟩) ((sl r len len)) ((sl g5 len c5))
      (fun m w hh => same_in m w (S := fun i => (skyL x y z (clA A)).getD i 0) (L := fun i => (lampL x y z (clA A) (lmA A)).getD i 0) h.le (hh.1.lt List.mem_cons_self) hh.2.1 (fun i hi => ⟨lights5 (fun _ h => h) hh.1 (pair_sky _ _ hi), lights5 (fun _ h => h) hh.1 (pair_lamp _ _ hi)⟩) hh.2.2) (fun m w _ => works_in m w) _ a11 w11 h11 ?_)
    intro a12 w12 h12
    exact wpIn_ret (ret a12 w12 ⟨h12.size, h12.defers, h12.kn, h12.wp.1.bel⟩)
  · refine wpIn_seq (wpIn_seq (gl2a n w2 B (chk X Y Z len) hc _ a2 h2.sr ?_))
    intro a3 h3
    refine wpIn_cond (t := false) (by rw [eval_tmp]; exact h3.kn (18, .bool false) (by simp)) (wpIn_skip ?_)
    refine wpIn_seq (gl4 n w2 B (chk X Y Z len) _ a3 (h3.sub (by simp)) ?_)
    intro a4 h4
    refine wpIn_seq (hcopy _ a4 w2 (h4.sg hG2) ?_)
    intro qp qc a5 w5 h5
    have hSG : Stable fun w => Has W0 (bsB X Y Z o len c B) w ∧ OwnP w qp len A := fun w1 w2 hh hb => ⟨hh.1.below hb, hh.2.below hb⟩
    refine wpIn_seq (gl6 n B (chk X Y Z len) qp len qc X Y Z (fun _ => .slice none 0 0) (chk X Y Z len) (fun _ w => Has W0 (bsB X Y Z o len c B) w ∧ OwnP w qp len A) (fun w hh => cbB hh.1 rfl) (fun w hh => cbB hh.1 rfl) (fun w hh => cbB hh.1 rfl)
      (fun m w hh => (light_bad m X Y Z qp len qc w hc).mono fun _ w' ⟨e1, e2⟩ => ⟨0, e1, hSG w w' hh e2⟩) _ a5 w5 h5 ?_)
    intro _ a6 w6 h6
    have hG6 := h6.wp
    refine wpIn_seq (wpIn_seq (gl7 n w6 B (chk X Y Z len) qp len qc (.slice none 0 0) _ a6 h6.sr ?_))
    intro a7 h7
    refine wpIn_cond (t := false) (by rw [eval_tmp]; exact h7.kn (38, .bool false) (by simp)) (wpIn_skip ?_)
    refine wpIn_seq (wpIn_seq (gl9 n w6 B (chk X Y Z len) qp len qc (.slice none 0 0) _ a7 (h7.sub (by simp)) ?_))
    intro a8 h8
    refine stay_loop n hSG (by omega) (fun h0 => ?_) a8 w6 _ (h8.sg hG6) ?_
    · obtain ⟨g, off, rfl, hr⟩ := hrow h0
      obtain ⟨g2, rfl, _, _⟩ := hG6.2 h0
      refine ⟨g2, g, off, c, A, rfl, fun w hh => ⟨cbB hh.1 rfl, ?_, hr.old hh.1⟩⟩
      obtain ⟨g2', e, k2, k3⟩ := hh.2 h0
      cases e
      exact ⟨k2, fun j hj => by rw [Nat.zero_add]; exact k3 j hj, hr.rng⟩
    intro a9 w9 h9
    have hG9 := h9.wp
    refine wpIn_seq (wpIn_seq (gl14 n w9 B (chk X Y Z len) (.slice none 0 0) _ a9 h9.sr ?_))
    intro a10 h10
    refine wpIn_cond (t := true) (by rw [eval_tmp, h10.kn (56, .bool (chk X Y Z len != 0)) (by simp)]; simp [hc]) ?_
    refine wpIn_seq (gl15 n hSG (fun m w _ => works_in m w) _ a10 w9 ((h10.sg hG9).sub (by simp)) ?_)
    intro a11 w11 h11
    exact wpIn_ret (ret a11 w11 ⟨h11.size, h11.defers, h11.kn, h11.wp.1.bel⟩)
end Go.Proofs.Ytmgiabehooghcaa
