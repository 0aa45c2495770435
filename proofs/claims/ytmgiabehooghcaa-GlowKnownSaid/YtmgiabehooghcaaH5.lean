/- Glow, by hand: part H5. -/
import Derived.RangeFuncNested
import Derived.RangeFuncBound
import Derived.RangeFuncCalls
import Derived.RangeFuncLeaves
import Derived.Shelf.Abstract
import Derived.Shelf.RegionOpen
import Derived.WalkKit
import Derived.OwnWalkIn
import Derived.TacticsInMore
import Derived.LoopNIn
import Derived.LoopIn
import Derived.Lib.Hide
import Derived.IntWalk
import Derived.Maps.AppendAt
import Derived.Test.YtmgiabehooghcaaKc
import Derived.Test.YtmgiabehooghcaaGin
import Derived.Test.YtmgiabehooghcaaH4
set_option linter.unusedVariables false
set_option linter.unusedSimpArgs false
/-! from zj -/
namespace Go.Proofs.Ytmgiabehooghcaa
open Go.RowKit Go.Shelf
attribute [local go_sem] Oper.semAt_some

theorem spreadF_len (sd : Nat → List Nat) (cl : Nat → Bool) (L : Nat → List Nat) : ∀ (l : Nat) (out cur : List Nat), (Glow.spreadF sd cl L l out cur).length = out.length
  | 0, out, cur => rfl
  | l + 1, out, cur => by
    unfold Glow.spreadF
    rw [spreadF_len sd cl L l]
    have key : ∀ (c : List Nat) (p : List Nat × List Nat), (c.foldl (Glow.stepF sd cl (l + 1)) p).1.length = p.1.length := by
      intro c
      induction c with
      | nil => intro p; rfl
      | cons x c ih =>
        intro p
        rw [List.foldl_cons, ih]
        unfold Glow.stepF
        split <;> simp
    exact key cur _
theorem skyL_len {X Y Z N : Nat} {cl : Nat → Bool} (hNe : N = X * Y * Z) (_ : N = Y * (X * Z)) : (skyL X Y Z cl).length = N := by unfold skyL; rw [spreadF_len, List.length_replicate, hNe]
theorem lampL_len {X Y Z N : Nat} {cl : Nat → Bool} (hNe : N = X * Y * Z) (lm : Nat → Nat) : (lampL X Y Z cl lm).length = N := by unfold lampL; rw [spreadF_len, List.length_replicate, hNe]
theorem nil16 : ∀ m, m < 16 → (#[.slice none 0 0, .slice none 0 0, .slice none 0 0, .slice none 0 0, .slice none 0 0, .slice none 0 0, .slice none 0 0, .slice none 0 0, .slice none 0 0, .slice none 0 0, .slice none 0 0, .slice none 0 0, .slice none 0 0, .slice none 0 0, .slice none 0 0, .slice none 0 0] : Array Value)[m]? = some (.slice none 0 0)
  | 0, _ => rfl
  | 1, _ => rfl
  | 2, _ => rfl
  | 3, _ => rfl
  | 4, _ => rfl
  | 5, _ => rfl
  | 6, _ => rfl
  | 7, _ => rfl
  | 8, _ => rfl
  | 9, _ => rfl
  | 10, _ => rfl
  | 11, _ => rfl
  | 12, _ => rfl
  | 13, _ => rfl
  | 14, _ => rfl
  | 15, _ => rfl
  | m + 16, h => by omega
theorem lists_nil {W : World} {lB : Nat} (h : W.heap[lB]? = some (.cells #[.slice none 0 0, .slice none 0 0, .slice none 0 0, .slice none 0 0, .slice none 0 0, .slice none 0 0, .slice none 0 0, .slice none 0 0, .slice none 0 0, .slice none 0 0, .slice none 0 0, .slice none 0 0, .slice none 0 0, .slice none 0 0, .slice none 0 0, .slice none 0 0] 53 (0, 0))) : Lists W lB (fun _ => .slice none 0 0) (fun _ => []) :=
  ⟨⟨_, h, rfl, nil16⟩, fun m _ => ⟨rfl, .inl ⟨rfl, rfl⟩⟩, fun m m' _ _ _ g hg => by simp [Value.ownBlock] at hg⟩
section
variable {w0 : World} {X Y Z N g off cap : Nat} {K V : Nat → Nat} {cl : Nat → Bool}
set_option maxHeartbeats 1000000 in
/-- **Light of a box that may be.** -/
theorem light_in (n : Nat) (hc : Cells w0 (fun _ => False) N g off K V cl) (lm : Nat → Nat) (hlm : ∀ s, s < N → lm s ≤ 15 ∧ ∀ m W, CallsIn Fence.wide m Try.prog 18 #[.agg #[.int .u8 (K s), .int .u8 (V s)]] W fun e w' => e = .returned (.int .u8 (lm s)) ∧ Below W.heap.size W w')
    (hX : 1 ≤ X ∧ X ≤ 256) (hY : 1 ≤ Y ∧ Y ≤ 256) (hZ : 1 ≤ Z ∧ Z ≤ 256) (hNe : N = X * Y * Z) :
    CallsIn Fence.wide n Try.prog 14 #[.agg #[.int .i64 X, .int .i64 Y, .int .i64 Z, .slice (some ⟨g, off, none⟩) N cap]] w0 fun e w' => ∃ r3, e = .returned (.tuple #[.slice (some ⟨r3, 0, none⟩) N N, .int .i64 0]) ∧ w0.heap.size ≤ r3 ∧
      w'.heap[r3]? = some (.cells (pairsV (skyL X Y Z cl) (lampL X Y Z cl lm) N N) 37 (0, 0)) ∧ Below w0.heap.size w0 w' := by
  have hN := hc.n
  have hYl : N = Y * (X * Z) := by rw [hNe, Nat.mul_comm X Y, Nat.mul_assoc]
  have hXZ : X * Z ≤ 65536 := Nat.mul_le_mul hX.2 hZ.2
  have hcXZ : ((X * Z : Nat) : Int) = (X : Int) * Z := Int.natCast_mul _ _
  refine callsIn_of_wp Try.func14 rfl trivial ?_
  show C14.wpIn _ _ _ _ _ _
  rw [C14_eq]
  refine wpIn_seq ?_
  refine l0 n w0 X Y Z (.slice (some ⟨g, off, none⟩) N cap) _ _ ⟨by simp [Try.ntmps14], rfl, by simp [Try.ntmps14], rfl⟩ ?_
  intro a1 h1
  have hbx := World.alloc_heap_new w0 (.cells #[.int .i64 X, .int .i64 Y, .int .i64 Z, .slice (some ⟨g, off, none⟩) N cap] 24)
  have hb0 : Below w0.heap.size w0 (w0.alloc (.cells #[.int .i64 X, .int .i64 Y, .int .i64 Z, .slice (some ⟨g, off, none⟩) N cap] 24)) := (Below.refl _ _).alloc (Nat.le_refl _) _
  have hz0 : w0.heap.size < (w0.alloc (.cells #[.int .i64 X, .int .i64 Y, .int .i64 Z, .slice (some ⟨g, off, none⟩) N cap] 24)).heap.size := by simp
  generalize w0.alloc (.cells #[.int .i64 X, .int .i64 Y, .int .i64 Z, .slice (some ⟨g, off, none⟩) N cap] 24) = W1 at h1 hbx hb0 hz0 ⊢
  have cB : ∀ j, W1.cell? ⟨w0.heap.size, j, none⟩ = (#[Value.int .i64 X, .int .i64 Y, .int .i64 Z, .slice (some ⟨g, off, none⟩) N cap] : Array Value)[j]? := fun j => by simp [World.cell?, hbx]
  have hchk : chk (X : Int) Y Z N = 0 := by
    unfold chk okS
    have e1 : (X : Int) * Y * Z = (N : Int) := by rw [hNe, Int.natCast_mul, Int.natCast_mul]
    rw [e1]
    simp
    omega
  refine wpIn_seq (wpIn_seq ?_)
  refine l1 n W1 w0.heap.size X Y Z 0 (.slice (some ⟨g, off, none⟩) N cap) (by rw [cB]; rfl) (by rw [cB]; rfl) (by rw [cB]; rfl) (by rw [cB]; rfl) hz0 (fun m W => by have := check_in m X Y Z (some ⟨g, off, none⟩) N cap W; rw [hchk] at this; exact this) _ a1 ⟨h1.size, h1.defers, h1.kn, rfl⟩ ?_
  intro a2 W2 hb2 h2
  refine wpIn_seq (l2 n W2 w0.heap.size 0 _ a2 h2 ?_)
  intro a3 h3
  refine wpIn_cond (t := false) (by rw [eval_tmp]; exact h3.kn (19, .bool ((0 : Int) != 0)) (by simp)) (wpIn_skip ?_)
  simp only [Exit.then]
  have hb2' := hb0.trans (hb2.mono hb0.size)
  have hbx2 := (hb2.block _ hz0).trans hbx
  refine wpIn_seq (l4 n W2 w0.heap.size _ a3 (h3.sub (by simp)) ?_)
  intro a4 h4
  have hz2 : w0.heap.size < W2.heap.size := Nat.lt_of_lt_of_le hz0 hb2.size
  have hL : Li w0 w0.heap.size W2.heap.size (W2.heap.size + 1) (X : Int) Y Z N g off cap (fun _ => .slice none 0 0) (fun _ => .slice none 0 0) (fun _ => []) (fun _ => []) ((W2.alloc (.cells #[.slice none 0 0, .slice none 0 0, .slice none 0 0, .slice none 0 0, .slice none 0 0, .slice none 0 0, .slice none 0 0, .slice none 0 0, .slice none 0 0, .slice none 0 0, .slice none 0 0, .slice none 0 0, .slice none 0 0, .slice none 0 0, .slice none 0 0, .slice none 0 0] 53)).alloc (.cells #[.slice none 0 0, .slice none 0 0, .slice none 0 0, .slice none 0 0, .slice none 0 0, .slice none 0 0, .slice none 0 0, .slice none 0 0, .slice none 0 0, .slice none 0 0, .slice none 0 0, .slice none 0 0, .slice none 0 0, .slice none 0 0, .slice none 0 0, .slice none 0 0] 53)) := by
    have hh : ∀ k, ((W2.alloc (.cells #[.slice none 0 0, .slice none 0 0, .slice none 0 0, .slice none 0 0, .slice none 0 0, .slice none 0 0, .slice none 0 0, .slice none 0 0, .slice none 0 0, .slice none 0 0, .slice none 0 0, .slice none 0 0, .slice none 0 0, .slice none 0 0, .slice none 0 0, .slice none 0 0] 53)).alloc (.cells #[.slice none 0 0, .slice none 0 0, .slice none 0 0, .slice none 0 0, .slice none 0 0, .slice none 0 0, .slice none 0 0, .slice none 0 0, .slice none 0 0, .slice none 0 0, .slice none 0 0, .slice none 0 0, .slice none 0 0, .slice none 0 0, .slice none 0 0, .slice none 0 0] 53)).heap[k]? = if k = W2.heap.size + 1 then some (.cells #[.slice none 0 0, .slice none 0 0, .slice none 0 0, .slice none 0 0, .slice none 0 0, .slice none 0 0, .slice none 0 0, .slice none 0 0, .slice none 0 0, .slice none 0 0, .slice none 0 0, .slice none 0 0, .slice none 0 0, .slice none 0 0, .slice none 0 0, .slice none 0 0] 53) else if k = W2.heap.size then some (.cells #[.slice none 0 0, .slice none 0 0, .slice none 0 0, .slice none 0 0, .slice none 0 0, .slice none 0 0, .slice none 0 0, .slice none 0 0, .slice none 0 0, .slice none 0 0, .slice none 0 0, .slice none 0 0, .slice none 0 0, .slice none 0 0, .slice none 0 0, .slice none 0 0] 53) else W2.heap[k]? := fun k => by
      rw [heap_alloc_if, heap_alloc_if]; simp
    refine { os := hb2'.os, tape := hb2'.tape, output := hb2'.output, size := by simp; omega, old := fun k hk => ?_, bx := ?_, sk := lists_nil ?_, lm := lists_nil ?_, cross := fun m m' _ _ k hk => by simp [Value.ownBlock] at hk, gs := fun m _ k hk => by simp [Value.ownBlock] at hk, gm := fun m _ k hk => by simp [Value.ownBlock] at hk, nb := Nat.le_refl _, ns := by omega, nm := by omega, ne := by omega }
    · rw [hh, if_neg (by omega), if_neg (by omega)]; exact hb2'.block k hk
    · rw [hh, if_neg (by omega), if_neg (by omega)]; exact hbx2
    · rw [hh, if_neg (by omega), if_pos rfl]
    · rw [hh, if_pos rfl]
  generalize (W2.alloc (.cells #[.slice none 0 0, .slice none 0 0, .slice none 0 0, .slice none 0 0, .slice none 0 0, .slice none 0 0, .slice none 0 0, .slice none 0 0, .slice none 0 0, .slice none 0 0, .slice none 0 0, .slice none 0 0, .slice none 0 0, .slice none 0 0, .slice none 0 0, .slice none 0 0] 53)).alloc (.cells #[.slice none 0 0, .slice none 0 0, .slice none 0 0, .slice none 0 0, .slice none 0 0, .slice none 0 0, .slice none 0 0, .slice none 0 0, .slice none 0 0, .slice none 0 0, .slice none 0 0, .slice none 0 0, .slice none 0 0, .slice none 0 0, .slice none 0 0, .slice none 0 0] 53) = W4 at h4 hL ⊢
  obtain ⟨cx, cy, cz, c3⟩ := hL.cell
  refine wpIn_seq (l5 n W4 w0.heap.size W2.heap.size (W2.heap.size + 1) X Z cx cz (wrap_in (by omega) (by omega)) _ a4 (h4.sub (by simp)) ?_)
  intro a5 h5
  rw [← hcXZ] at h5
  refine wpIn_seq (wpIn_seq (l6 n W4 w0.heap.size W2.heap.size (W2.heap.size + 1) (X * Z) _ a5 h5 ?_))
  intro a6 h6
  simp only [Exit.then]
  refine columns_in n hc (X * Z) hYl hY.1 hY.2 hXZ _ W4 hL a6 (h6.sub (by simp)) _ ?_
  intro a7 W7 sv h7 hL7
  simp only [Exit.then]
  obtain ⟨_, _, _, c37⟩ := hL7.cell
  refine wpIn_seq (wpIn_seq (l14 n W7 w0.heap.size W2.heap.size (W2.heap.size + 1) N g off cap c37 _ a7 h7 ?_))
  intro a8 h8
  simp only [Exit.then]
  refine lamps_in n hc lm hlm sv _ W7 hL7 a8 (h8.sub (by simp)) _ ?_
  intro a9 W9 mv h9 hL9
  simp only [Exit.then]
  refine wpIn_seq (l20 n W9 w0.heap.size W2.heap.size (W2.heap.size + 1) N X Y Z (.slice (some ⟨g, off, none⟩) N cap) sv mv
    (fun w => Li w0 w0.heap.size W2.heap.size (W2.heap.size + 1) (X : Int) Y Z N g off cap sv mv (upd (fun _ => []) 15 (skyF cl (X * Z) Y (X * Z))) (lampF cl lm N) w)
    (fun r w => Lg w0 w0.heap.size W2.heap.size (W2.heap.size + 1) (X : Int) Y Z N g off cap sv mv (lampF cl lm N) (skyL X Y Z cl) r w)
    (fun r s w => Lh w0 w0.heap.size (X : Int) Y Z N g off cap (skyL X Y Z cl) (lampL X Y Z cl lm) r s w) ?_ ?_ (hL9.below (Below.refl _ _).drew) ?_ ?_ _ a9 h9 ?_)
  · intro w h
    obtain ⟨k1, k2, k3, k4⟩ := h.cell
    exact ⟨k1, k2, k3, k4, fun j hj => h.sk.cell hj, fun j hj => h.lm.cell hj⟩
  · intro r w h
    obtain ⟨c, k1, k2⟩ := h.sk
    refine ⟨by simp [World.cell?, h.bx], by simp [World.cell?, h.bx], by simp [World.cell?, h.bx], by simp [World.cell?, h.bx], fun j hj => by simp [World.cell?, k1, k2 j hj], fun j hj => h.lm.cell hj⟩
  · intro m w h
    have := spread1 hc hNe hX.2 hY.2 hZ.2 (sky_ok hYl) m w h
    rw [hNe] at this ⊢
    exact this
  · intro m r w h
    have := spread2 hc hNe hX.2 hY.2 hZ.2 (lamp_ok lm) m r w h
    unfold lampL
    rw [← hNe]
    exact this
  intro a10 W10 r1 r2 hh h10
  refine wpIn_seq (l21 n W10 w0.heap.size N g off cap r1 r2 hN (by simp [World.cell?, hh.bx]) _ a10 h10 ?_)
  intro a11 h11
  have hlen : (skyL X Y Z cl).length = N ∧ (lampL X Y Z cl lm).length = N := ⟨skyL_len hNe hYl, lampL_len hNe lm⟩
  have hLd : Ld w0 r1 r2 W10.heap.size N (skyL X Y Z cl) (lampL X Y Z cl lm) 0 (W10.alloc (.cells (madeCells #[.int .u8 0, .int .u8 0] (N * 2)) 37)) :=
    ⟨hh.os, hh.tape, hh.output, by simp; have := hh.size; omega, fun k hk => (Below.heap_alloc _ _ _ (Nat.lt_of_lt_of_le hk hh.size)).trans (hh.old k hk), (Below.heap_alloc _ _ _ (Array.getElem?_eq_some_iff.1 hh.row).1).trans hh.row, (Below.heap_alloc _ _ _ (Array.getElem?_eq_some_iff.1 hh.row2).1).trans hh.row2, by rw [World.alloc_heap_new, made_pairs], hh.size⟩
  generalize W10.alloc (.cells (madeCells #[.int .u8 0, .int .u8 0] (N * 2)) 37) = W11 at h11 hLd ⊢
  refine wpIn_seq (wpIn_seq (l22 n W11 r1 r2 W10.heap.size N _ a11 h11 ?_))
  intro a12 h12
  simp only [Exit.then]
  refine pairs_in n hN hlen.1 hlen.2 W11 hLd a12 (h12.sub (by simp)) _ ?_
  intro a13 W13 h13 hL13
  simp only [Exit.then]
  refine wpIn_seq (l27 n W13 W10.heap.size N _ a13 h13 ?_)
  intro a14 h14
  have e2 := h14.kn (2, .slice (some ⟨W10.heap.size, 0, none⟩) N N) (by simp)
  have e3 := h14.kn (3, .int .i64 0) (by simp)
  refine wpIn_ret ⟨h14.defers, _, results_tmp2 (t := 2) (u := 3) rfl _ _ _, W10.heap.size, ?_, hL13.n3, hL13.h3, ⟨hL13.os, hL13.tape, hL13.output, hL13.size, fun k hk => hL13.old k hk⟩⟩
  rw [Array.getD_eq_getD_getElem?, Array.getD_eq_getD_getElem?, e2, e3]
end
end Go.Proofs.Ytmgiabehooghcaa
/-! from zk -/
namespace Go.Proofs.Ytmgiabehooghcaa
open Go.RowKit Go.Shelf
attribute [local go_sem] Oper.semAt_some

/-! ### What Light comes to is light by definition -/
section
variable {X Y Z N : Nat} {cl : Nat → Bool}
theorem skyF_mem {ly Y c i : Nat} : i ∈ skyF cl ly Y c ↔ ∃ k y, k < c ∧ y < Y ∧ i = y * ly + k ∧ ∀ y', y ≤ y' → y' < Y → cl (y' * ly + k) = true := by
  unfold skyF
  rw [List.mem_flatMap]
  constructor
  · rintro ⟨k, hk, h⟩
    obtain ⟨y, h1, h2, h3⟩ := colF_mem h
    exact ⟨k, y, by simpa using hk, h1, h2, h3⟩
  · rintro ⟨k, y, hk, h1, rfl, h3⟩
    exact ⟨k, by simpa using hk, colF_of h1 h3⟩
def skyS (cl : Nat → Bool) (ly Y i : Nat) : Nat := if i ∈ skyF cl ly Y ly then 15 else 0
theorem skyL_fix (hYl : X * Y * Z = Y * (X * Z)) : (∀ i, (skyL X Y Z cl).getD i 0 ≤ 15) ∧ Glow.Fix (Glow.sides X Y Z) cl (skyS cl (X * Z) Y) (X * Y * Z) fun i => (skyL X Y Z cl).getD i 0 := by
  refine (Glow.spreadF_fix (n := X * Y * Z) (fun i s hi h => Glow.sides_sym X Y Z i s hi h) ?_ (skyS cl (X * Z) Y) ?_).2
  · intro m i _ hi
    by_cases e : m = 15
    · subst e
      rw [upd_same] at hi
      obtain ⟨k, y, hk, hy, rfl, hc⟩ := skyF_mem.1 hi
      exact ⟨by rw [hYl]; exact idx_lt hy hk, hc y (Nat.le_refl _) hy⟩
    · rw [upd_ne _ _ e] at hi; cases hi
  · intro i _ _
    constructor
    · intro m h0 _ hi
      by_cases e : m = 15
      · subst e
        rw [upd_same] at hi
        unfold skyS; rw [if_pos hi]; exact Nat.le_refl _
      · rw [upd_ne _ _ e] at hi; cases hi
    · unfold skyS
      split
      · rename_i h; right; exact ⟨Nat.le_refl _, by rw [upd_same]; exact h⟩
      · exact .inl rfl
theorem lampL_fix (lm : Nat → Nat) (hlm : ∀ i, i < X * Y * Z → lm i ≤ 15) : (∀ i, (lampL X Y Z cl lm).getD i 0 ≤ 15) ∧ Glow.Fix (Glow.sides X Y Z) cl lm (X * Y * Z) fun i => (lampL X Y Z cl lm).getD i 0 := by
  have hm : ∀ m i, i ∈ lampF cl lm (X * Y * Z) m ↔ i < X * Y * Z ∧ cl i = true ∧ lm i = m := fun m i => by
    unfold lampF
    rw [List.mem_filter, List.mem_range, Bool.and_eq_true, beq_iff_eq]
  refine (Glow.spreadF_fix (n := X * Y * Z) (fun i s hi h => Glow.sides_sym X Y Z i s hi h) (fun m i _ hi => ?_) lm ?_).2
  · have := (hm m i).1 hi; exact ⟨this.1, this.2.1⟩
  · intro i hi hc
    exact ⟨fun m _ _ h => by rw [((hm m i).1 h).2.2]; exact Nat.le_refl _, .inr ⟨hlm i hi, (hm _ _).2 ⟨hi, hc, rfl⟩⟩⟩
end
end Go.Proofs.Ytmgiabehooghcaa
/-! from zl -/
namespace Go.Proofs.Ytmgiabehooghcaa
open Go.RowKit Go.Shelf
attribute [local go_sem] Oper.semAt_some

/-! ### A box that may not be -/
theorem light_bad (n : Nat) (X Y Z : Int) (o : Option Addr) (len c : Nat) (W : World) (hbad : chk X Y Z len ≠ 0) : CallsIn Fence.wide n Try.prog 14 #[.agg #[.int .i64 X, .int .i64 Y, .int .i64 Z, .slice o len c]] W fun e w' =>
    e = .returned (.tuple #[.slice none 0 0, .int .i64 (chk X Y Z len)]) ∧ Below W.heap.size W w' := by
  refine callsIn_of_wp Try.func14 rfl trivial ?_
  show C14.wpIn _ _ _ _ _ _
  rw [C14_eq]
  refine wpIn_seq ?_
  refine l0 n W X Y Z (.slice o len c) _ _ ⟨by simp [Try.ntmps14], rfl, by simp [Try.ntmps14], rfl⟩ ?_
  intro a1 h1
  have hbx := World.alloc_heap_new W (.cells #[.int .i64 X, .int .i64 Y, .int .i64 Z, .slice o len c] 24)
  have hb0 : Below W.heap.size W (W.alloc (.cells #[.int .i64 X, .int .i64 Y, .int .i64 Z, .slice o len c] 24)) := (Below.refl _ _).alloc (Nat.le_refl _) _
  have hz0 : W.heap.size < (W.alloc (.cells #[.int .i64 X, .int .i64 Y, .int .i64 Z, .slice o len c] 24)).heap.size := by simp
  generalize W.alloc (.cells #[.int .i64 X, .int .i64 Y, .int .i64 Z, .slice o len c] 24) = W1 at h1 hbx hb0 hz0 ⊢
  have cB : ∀ j, W1.cell? ⟨W.heap.size, j, none⟩ = (#[Value.int .i64 X, .int .i64 Y, .int .i64 Z, .slice o len c] : Array Value)[j]? := fun j => by simp [World.cell?, hbx]
  refine wpIn_seq (wpIn_seq ?_)
  refine l1 n W1 W.heap.size X Y Z (chk X Y Z len) (.slice o len c) (by rw [cB]; rfl) (by rw [cB]; rfl) (by rw [cB]; rfl) (by rw [cB]; rfl) hz0 (fun m W => check_in m X Y Z o len c W) _ a1 ⟨h1.size, h1.defers, h1.kn, rfl⟩ ?_
  intro a2 W2 hb2 h2
  refine wpIn_seq (l2 n W2 W.heap.size (chk X Y Z len) _ a2 h2 ?_)
  intro a3 h3
  refine wpIn_cond (t := true) (by rw [eval_tmp, h3.kn (19, .bool (chk X Y Z len != 0)) (by simp)]; simp [hbad]) ?_
  refine wpIn_seq (l3 n W2 W.heap.size (chk X Y Z len) _ a3 (h3.sub (by simp +contextual)) ?_)
  intro a4 h4
  have e2 := h4.kn (2, .slice none 0 0) (by simp)
  have e3 := h4.kn (3, .int .i64 (chk X Y Z len)) (by simp)
  refine wpIn_ret ?_
  exact ⟨h4.defers, _, results_tmp2 (t := 2) (u := 3) rfl _ _ _, by rw [Array.getD_eq_getD_getElem?, Array.getD_eq_getD_getElem?, e2, e3], hb0.trans (hb2.mono hb0.size)⟩
/-! ### works -/
noncomputable def C13 : Code := Try.f13.body.getD .skip
def wK (s : Nat) : Nat := if s = 1 then 2 else 0
def wcl (s : Nat) : Bool := K.may (wK s : Nat) (0 : Nat) && K.clear (wK s : Nat)
def wlm (s : Nat) : Nat := (K.lamp (wK s : Nat) (0 : Nat)).toNat
theorem works_pairs : pairsV (skyL 1 3 1 wcl) (lampL 1 3 1 wcl wlm) 3 3 = #[.int .u8 0, .int .u8 0, .int .u8 0, .int .u8 0, .int .u8 15, .int .u8 0] := by kernel_rfl
def PostW (W : World) (r : Nat) (w : World) : Prop := W.heap.size ≤ r ∧ w.heap[r]? = some (.cells #[.int .u8 0, .int .u8 0, .int .u8 0, .int .u8 0, .int .u8 15, .int .u8 0] 37 (0, 0)) ∧ Below W.heap.size W w
structure W13 (W : World) (r : Nat) (b3 b5 : Bool) (w : World) : Prop where
  a0 : b3 = false → b5 = false → w = W
  a1 : b3 = true → b5 = false → w = W.alloc (.cells #[.int .u8 0, .int .u8 0, .int .u8 2, .int .u8 0, .int .u8 0, .int .u8 0] 32)
  a2 : b5 = true → PostW W r w
theorem lamp_le (k v : Nat) : 0 ≤ K.lamp k v ∧ K.lamp k v ≤ 15 := by
  unfold K.lamp
  by_cases hm : K.may k v = true
  · rw [if_pos hm]
    by_cases h11 : ((k : Int) == 11) = true
    · rw [if_pos h11]
      unfold K.may K.levels at hm
      rw [if_pos h11, Bool.and_eq_true, Bool.and_eq_true, decide_eq_true_eq, decide_eq_true_eq] at hm
      omega
    · rw [if_neg h11]; split <;> omega
  · rw [if_neg hm]; omega
theorem works_light (n : Nat) (W : World) : CallsIn Fence.wide n Try.prog 14 #[.agg #[.int .i64 1, .int .i64 3, .int .i64 1, .slice (some ⟨W.heap.size, 0, none⟩) 3 3]] (W.alloc (.cells #[.int .u8 0, .int .u8 0, .int .u8 2, .int .u8 0, .int .u8 0, .int .u8 0] 32)) fun e w' => ∃ r, e = .returned (.tuple #[.slice (some ⟨r, 0, none⟩) 3 3, .int .i64 0]) ∧ PostW W r w' := by
  have hbx := World.alloc_heap_new W (.cells #[.int .u8 0, .int .u8 0, .int .u8 2, .int .u8 0, .int .u8 0, .int .u8 0] 32)
  have hb : Below W.heap.size W (W.alloc (.cells #[.int .u8 0, .int .u8 0, .int .u8 2, .int .u8 0, .int .u8 0, .int .u8 0] 32)) := (Below.refl _ _).alloc (Nat.le_refl _) _
  have hz : W.heap.size < (W.alloc (.cells #[.int .u8 0, .int .u8 0, .int .u8 2, .int .u8 0, .int .u8 0, .int .u8 0] 32)).heap.size := by simp
  generalize W.alloc (.cells #[.int .u8 0, .int .u8 0, .int .u8 2, .int .u8 0, .int .u8 0, .int .u8 0] 32) = W1 at hbx hb hz ⊢
  have hcell : ∀ j, W1.cell? ⟨W.heap.size, j, none⟩ = (#[Value.int .u8 0, .int .u8 0, .int .u8 2, .int .u8 0, .int .u8 0, .int .u8 0] : Array Value)[j]? := fun j => by simp [World.cell?, hbx]
  have hc : Cells W1 (fun _ => False) 3 W.heap.size 0 wK (fun _ => 0) wcl := by
    refine ⟨by omega, hz, fun h => h, fun s hs => ?_, fun s hs => ?_, fun s hs W m => ?_⟩
    · rw [hcell]
      have : s = 0 ∨ s = 1 ∨ s = 2 := by omega
      rcases this with rfl | rfl | rfl <;> rfl
    · rw [hcell]
      have : s = 0 ∨ s = 1 ∨ s = 2 := by omega
      rcases this with rfl | rfl | rfl <;> rfl
    · exact clear_in m (wK s) 0 (by unfold wK; split <;> omega) (by omega) W
  refine (light_in (X := 1) (Y := 3) (Z := 1) n hc wlm (fun s hs => ?_) (by omega) (by omega) (by omega) rfl).mono ?_
  · have hl := lamp_le (wK s) 0
    refine ⟨by unfold wlm; omega, fun m W => ?_⟩
    have := lamp_in m (wK s) 0 (by unfold wK; split <;> omega) (by omega) W
    unfold wlm
    rw [Int.toNat_of_nonneg hl.1]
    exact this
  · rintro e w' ⟨r, rfl, h1, h2, h3⟩
    rw [works_pairs] at h2
    exact ⟨r, rfl, by omega, h2, hb.trans (h3.mono hb.size)⟩
set_option maxRecDepth 100000 in
set_option maxHeartbeats 4000000 in
theorem r13_1 (n : Nat) (W : World) (Q : Exit → Act → World → Prop) (a : Act) (h0 : SR [] 33 [] W a W)
    (hQ : ∀ a w r, PostW W r w → SR [(1, .slice (some ⟨r, 0, none⟩) 3 3), (2, .int .i64 0)] 33 [] w a w → Q .normal a w) : (regOf 1 C13).wpIn Fence.wide n Try.prog Q a W := by
  simp only [regOf, C13, Try.f13, Option.getD, Nat.reduceBEq, Bool.false_eq_true, if_true, if_false]
  refine region_seq (SomeR fun r _ => RI []
    [(0, 4, .agg #[.int .u8 0, .int .u8 0]), (1, 5, .agg #[.int .u8 2, .int .u8 0]), (2, 6, .agg #[.int .u8 0, .int .u8 0]), (3, 7, .slice (some ⟨W.heap.size, 0, none⟩) 3 3), (4, 8, .agg #[.int .i64 1, .int .i64 3, .int .i64 1, .slice (some ⟨W.heap.size, 0, none⟩) 3 3]), (5, 9, .tuple #[.slice (some ⟨r, 0, none⟩) 3 3, .int .i64 0]), (6, 3, .tuple #[.slice (some ⟨r, 0, none⟩) 3 3, .int .i64 0]), (7, 10, .slice (some ⟨r, 0, none⟩) 3 3), (8, 11, .int .i64 0), (9, 1, .slice (some ⟨r, 0, none⟩) 3 3), (10, 2, .int .i64 0)] 33 [] (fun Xs w => W13 W r (Xs 3) (Xs 5) w)) (by kernel_rfl) ⟨0, 0, h0.size, h0.defers, by simp, by simp, ⟨fun _ _ => rfl, fun h => (by cases h), fun h => (by cases h)⟩⟩ ⟨?_, ?_, ?_, ?_, ?_, ?_, ?_, ?_, ?_, ?_, ?_, trivial⟩ ?_
  · intro Xs a w hX hdep hC hJ
    obtain ⟨r, _, hI⟩ := hJ
    go_simp
    exact ⟨r, 0, hI.put' (k := 0) (d := 4) (v := .agg #[.int .u8 0, .int .u8 0]) (by decide) (by simp) (by simp) (by simp) (by simpa [addX] using hI.wp)⟩
  · intro Xs a w hX hdep hC hJ
    obtain ⟨r, _, hI⟩ := hJ
    go_simp
    exact ⟨r, 0, hI.put' (k := 1) (d := 5) (v := .agg #[.int .u8 2, .int .u8 0]) (by decide) (by simp) (by simp) (by simp) (by simpa [addX] using hI.wp)⟩
  · intro Xs a w hX hdep hC hJ
    obtain ⟨r, _, hI⟩ := hJ
    go_simp
    exact ⟨r, 0, hI.put' (k := 2) (d := 6) (v := .agg #[.int .u8 0, .int .u8 0]) (by decide) (by simp) (by simp) (by simp) (by simpa [addX] using hI.wp)⟩
  · intro Xs a w hX hdep hC hJ
    obtain ⟨r, _, hI⟩ := hJ
    have x0 : Xs 0 = true := hdep ⟨0, .data⟩ (by simp) rfl
    have x1 : Xs 1 = true := hdep ⟨1, .data⟩ (by simp) rfl
    have x2 : Xs 2 = true := hdep ⟨2, .data⟩ (by simp) rfl
    have e4 := hI.gk 0 rfl x0
    have e5 := hI.gk 1 rfl x1
    have e6 := hI.gk 2 rfl x2
    have x5 : Xs 5 = false := by
      cases h : Xs 5 with
      | false => rfl
      | true =>
        have y5 := h
        have y4 := hC 5 _ rfl y5 ⟨4, .data⟩ (by simp) rfl
        have y3 := hC 4 _ rfl y4 ⟨3, .data⟩ (by simp) rfl
        rw [hX] at y3; cases y3
    obtain rfl := hI.wp.a0 hX x5
    go_simp
    refine ⟨r, 0, hI.put' (k := 3) (d := 7) (v := .slice (some ⟨w.heap.size, 0, none⟩) 3 3) (by decide) (by simp) (by simp) (by simp) ?_⟩
    have e3 : addX Xs 3 3 = true := by simp
    have e5 : addX Xs 3 5 = false := by simp [addX, x5]
    show W13 _ _ (addX Xs 3 3) (addX Xs 3 5) _
    rw [e3, e5]
    exact ⟨fun h => (by cases h), fun _ _ => rfl, fun h => (by cases h)⟩
  · intro Xs a w hX hdep hC hJ
    obtain ⟨r, _, hI⟩ := hJ
    have x3 : Xs 3 = true := hdep ⟨3, .data⟩ (by simp) rfl
    have e7 := hI.gk 3 rfl x3
    go_simp
    exact ⟨r, 0, hI.put' (k := 4) (d := 8) (v := .agg #[.int .i64 1, .int .i64 3, .int .i64 1, .slice (some ⟨W.heap.size, 0, none⟩) 3 3]) (by decide) (by simp) (by simp) (by simp) (by simpa [addX] using hI.wp)⟩
  · intro Xs a w hX hdep hC hJ
    obtain ⟨r, _, hI⟩ := hJ
    have x4 : Xs 4 = true := hdep ⟨4, .data⟩ (by simp) rfl
    have e8 := hI.gk 4 rfl x4
    have n6 : Xs 6 = false := by
      cases h : Xs 6 with
      | false => rfl
      | true => have y := hC 6 _ rfl h ⟨5, .data⟩ (by simp) rfl; rw [hX] at y; cases y
    have n7 : Xs 7 = false := by
      cases h : Xs 7 with
      | false => rfl
      | true => have y := hC 7 _ rfl h ⟨6, .data⟩ (by simp) rfl; rw [n6] at y; cases y
    have n8 : Xs 8 = false := by
      cases h : Xs 8 with
      | false => rfl
      | true => have y := hC 8 _ rfl h ⟨6, .data⟩ (by simp) rfl; rw [n6] at y; cases y
    have n9 : Xs 9 = false := by
      cases h : Xs 9 with
      | false => rfl
      | true => have y := hC 9 _ rfl h ⟨7, .data⟩ (by simp) rfl; rw [n7] at y; cases y
    have n10 : Xs 10 = false := by
      cases h : Xs 10 with
      | false => rfl
      | true => have y := hC 10 _ rfl h ⟨8, .data⟩ (by simp) rfl; rw [n8] at y; cases y
    have x3 : Xs 3 = true := hC 4 _ rfl x4 ⟨3, .data⟩ (by simp) rfl
    obtain rfl := hI.wp.a1 x3 hX
    go_simp
    refine ⟨trivial, fun h => (by cases h), (works_light (n - 1) W).mono ?_⟩
    rintro e w' ⟨r', rfl, hp⟩
    refine ⟨r', 0, RI.putY hI (k := 5) (d := 9) (by decide) (by simp) (by simp) (by simp) (by simp [n6, n7, n8, n9, n10]) ?_⟩
    have e3 : addX Xs 5 3 = true := by simp [addX, x3]
    have e5 : addX Xs 5 5 = true := by simp
    show W13 _ _ (addX Xs 5 3) (addX Xs 5 5) _
    rw [e3, e5]
    exact ⟨fun h => (by cases h), fun _ h => (by cases h), fun _ => hp⟩
  · intro Xs a w hX hdep hC hJ
    obtain ⟨r, _, hI⟩ := hJ
    have x5 : Xs 5 = true := hdep ⟨5, .data⟩ (by simp) rfl
    have e9 := hI.gk 5 rfl x5
    go_simp
    exact ⟨r, 0, hI.put' (k := 6) (d := 3) (v := .tuple #[.slice (some ⟨r, 0, none⟩) 3 3, .int .i64 0]) (by decide) (by simp) (by simp) (by simp) (by simpa [addX] using hI.wp)⟩
  · intro Xs a w hX hdep hC hJ
    obtain ⟨r, _, hI⟩ := hJ
    have x6 : Xs 6 = true := hdep ⟨6, .data⟩ (by simp) rfl
    have e3 := hI.gk 6 rfl x6
    go_simp
    exact ⟨r, 0, hI.put' (k := 7) (d := 10) (v := .slice (some ⟨r, 0, none⟩) 3 3) (by decide) (by simp) (by simp) (by simp) (by simpa [addX] using hI.wp)⟩
  · intro Xs a w hX hdep hC hJ
    obtain ⟨r, _, hI⟩ := hJ
    have x6 : Xs 6 = true := hdep ⟨6, .data⟩ (by simp) rfl
    have e3 := hI.gk 6 rfl x6
    go_simp
    exact ⟨r, 0, hI.put' (k := 8) (d := 11) (v := .int .i64 0) (by decide) (by simp) (by simp) (by simp) (by simpa [addX] using hI.wp)⟩
  · intro Xs a w hX hdep hC hJ
    obtain ⟨r, _, hI⟩ := hJ
    have x7 : Xs 7 = true := hdep ⟨7, .data⟩ (by simp) rfl
    have e10 := hI.gk 7 rfl x7
    go_simp
    exact ⟨r, 0, hI.put' (k := 9) (d := 1) (v := .slice (some ⟨r, 0, none⟩) 3 3) (by decide) (by simp) (by simp) (by simp) (by simpa [addX] using hI.wp)⟩
  · intro Xs a w hX hdep hC hJ
    obtain ⟨r, _, hI⟩ := hJ
    have x8 : Xs 8 = true := hdep ⟨8, .data⟩ (by simp) rfl
    have e11 := hI.gk 8 rfl x8
    go_simp
    exact ⟨r, 0, hI.put' (k := 10) (d := 2) (v := .int .i64 0) (by decide) (by simp) (by simp) (by simp) (by simpa [addX] using hI.wp)⟩
  · intro Xs a w hX hJ
    obtain ⟨r, _, hI⟩ := hJ
    refine hQ a w r (hI.wp.a2 (hX 5 (by simp))) ⟨hI.size, hI.defers, ?_, rfl⟩
    simp only [List.mem_cons, List.not_mem_nil, or_false, forall_eq_or_imp, forall_eq]
    exact ⟨hI.kn (9, 1, .slice (some ⟨r, 0, none⟩) 3 3) (by simp) (hX 9 (by simp)), hI.kn (10, 2, .int .i64 0) (by simp) (hX 10 (by simp))⟩
set_option maxRecDepth 100000 in
set_option maxHeartbeats 4000000 in
theorem r13_2 (n : Nat) (W : World) (r : Nat) (c0 : W.cell? ⟨r, 0, none⟩ = some (.int .u8 0)) (c1 : W.cell? ⟨r, 1, none⟩ = some (.int .u8 0)) (c4 : W.cell? ⟨r, 4, none⟩ = some (.int .u8 15)) (c5 : W.cell? ⟨r, 5, none⟩ = some (.int .u8 0)) (Q : Exit → Act → World → Prop) (a : Act) (h0 : SR [(1, .slice (some ⟨r, 0, none⟩) 3 3), (2, .int .i64 0)] 33 [] W a W)
    (hQ : ∀ a, a.defers = [] → a.tmps[0]?.getD undef = .bool true → Q .normal a W) : (regOf 2 C13).wpIn Fence.wide n Try.prog Q a W := by
  simp only [regOf, C13, Try.f13, Option.getD, Nat.reduceBEq, Bool.false_eq_true, if_true, if_false]
  refine region_sq (fun k_ a w => match k_ with | 0 => SR [(1, .slice (some ⟨r, 0, none⟩) 3 3), (2, .int .i64 0)] 33 [] (W) a w | 1 => SR [(1, .slice (some ⟨r, 0, none⟩) 3 3), (2, .int .i64 0), (12, .int .i64 0)] 33 [] (W) a w | 2 => SR [(1, .slice (some ⟨r, 0, none⟩) 3 3), (2, .int .i64 0), (12, .int .i64 0), (13, .bool true)] 33 [] (W) a w | 3 => SR [(1, .slice (some ⟨r, 0, none⟩) 3 3), (2, .int .i64 0), (12, .int .i64 0), (13, .bool true), (14, .bool true)] 33 [] (W) a w | 4 => SR [(1, .slice (some ⟨r, 0, none⟩) 3 3), (2, .int .i64 0), (12, .int .i64 0), (13, .bool true), (14, .bool true), (15, .slice (some ⟨r, 0, none⟩) 3 3)] 33 [] (W) a w | 5 => SR [(1, .slice (some ⟨r, 0, none⟩) 3 3), (2, .int .i64 0), (12, .int .i64 0), (13, .bool true), (14, .bool true), (15, .slice (some ⟨r, 0, none⟩) 3 3), (16, .int .i64 3)] 33 [] (W) a w | 6 => SR [(1, .slice (some ⟨r, 0, none⟩) 3 3), (2, .int .i64 0), (12, .int .i64 0), (13, .bool true), (14, .bool true), (15, .slice (some ⟨r, 0, none⟩) 3 3), (16, .int .i64 3), (17, .bool true)] 33 [] (W) a w | 7 => SR [(1, .slice (some ⟨r, 0, none⟩) 3 3), (2, .int .i64 0), (12, .int .i64 0), (13, .bool true), (14, .bool true), (15, .slice (some ⟨r, 0, none⟩) 3 3), (16, .int .i64 3), (17, .bool true), (18, .bool true)] 33 [] (W) a w | 8 => SR [(1, .slice (some ⟨r, 0, none⟩) 3 3), (2, .int .i64 0), (12, .int .i64 0), (13, .bool true), (14, .bool true), (15, .slice (some ⟨r, 0, none⟩) 3 3), (16, .int .i64 3), (17, .bool true), (18, .bool true), (19, .bool true)] 33 [] (W) a w | 9 => SR [(1, .slice (some ⟨r, 0, none⟩) 3 3), (2, .int .i64 0), (12, .int .i64 0), (13, .bool true), (14, .bool true), (15, .slice (some ⟨r, 0, none⟩) 3 3), (16, .int .i64 3), (17, .bool true), (18, .bool true), (19, .bool true), (20, .slice (some ⟨r, 0, none⟩) 3 3)] 33 [] (W) a w | 10 => SR [(1, .slice (some ⟨r, 0, none⟩) 3 3), (2, .int .i64 0), (12, .int .i64 0), (13, .bool true), (14, .bool true), (15, .slice (some ⟨r, 0, none⟩) 3 3), (16, .int .i64 3), (17, .bool true), (18, .bool true), (19, .bool true), (20, .slice (some ⟨r, 0, none⟩) 3 3), (21, .pointer (some ⟨r, 0, none⟩))] 33 [] (W) a w | 11 => SR [(1, .slice (some ⟨r, 0, none⟩) 3 3), (2, .int .i64 0), (12, .int .i64 0), (13, .bool true), (14, .bool true), (15, .slice (some ⟨r, 0, none⟩) 3 3), (16, .int .i64 3), (17, .bool true), (18, .bool true), (19, .bool true), (20, .slice (some ⟨r, 0, none⟩) 3 3), (21, .pointer (some ⟨r, 0, none⟩)), (22, .agg #[.int .u8 0, .int .u8 0])] 33 [] (W) a w | 12 => SR [(1, .slice (some ⟨r, 0, none⟩) 3 3), (2, .int .i64 0), (12, .int .i64 0), (13, .bool true), (14, .bool true), (15, .slice (some ⟨r, 0, none⟩) 3 3), (16, .int .i64 3), (17, .bool true), (18, .bool true), (19, .bool true), (20, .slice (some ⟨r, 0, none⟩) 3 3), (21, .pointer (some ⟨r, 0, none⟩)), (22, .agg #[.int .u8 0, .int .u8 0]), (23, .agg #[.int .u8 0, .int .u8 0])] 33 [] (W) a w | 13 => SR [(1, .slice (some ⟨r, 0, none⟩) 3 3), (2, .int .i64 0), (12, .int .i64 0), (13, .bool true), (14, .bool true), (15, .slice (some ⟨r, 0, none⟩) 3 3), (16, .int .i64 3), (17, .bool true), (18, .bool true), (19, .bool true), (20, .slice (some ⟨r, 0, none⟩) 3 3), (21, .pointer (some ⟨r, 0, none⟩)), (22, .agg #[.int .u8 0, .int .u8 0]), (23, .agg #[.int .u8 0, .int .u8 0]), (24, .bool true)] 33 [] (W) a w | 14 => SR [(1, .slice (some ⟨r, 0, none⟩) 3 3), (2, .int .i64 0), (12, .int .i64 0), (13, .bool true), (14, .bool true), (15, .slice (some ⟨r, 0, none⟩) 3 3), (16, .int .i64 3), (17, .bool true), (18, .bool true), (19, .bool true), (20, .slice (some ⟨r, 0, none⟩) 3 3), (21, .pointer (some ⟨r, 0, none⟩)), (22, .agg #[.int .u8 0, .int .u8 0]), (23, .agg #[.int .u8 0, .int .u8 0]), (24, .bool true), (25, .bool true)] 33 [] (W) a w | 15 => SR [(1, .slice (some ⟨r, 0, none⟩) 3 3), (2, .int .i64 0), (12, .int .i64 0), (13, .bool true), (14, .bool true), (15, .slice (some ⟨r, 0, none⟩) 3 3), (16, .int .i64 3), (17, .bool true), (18, .bool true), (19, .bool true), (20, .slice (some ⟨r, 0, none⟩) 3 3), (21, .pointer (some ⟨r, 0, none⟩)), (22, .agg #[.int .u8 0, .int .u8 0]), (23, .agg #[.int .u8 0, .int .u8 0]), (24, .bool true), (25, .bool true), (26, .bool true)] 33 [] (W) a w | 16 => SR [(1, .slice (some ⟨r, 0, none⟩) 3 3), (2, .int .i64 0), (12, .int .i64 0), (13, .bool true), (14, .bool true), (15, .slice (some ⟨r, 0, none⟩) 3 3), (16, .int .i64 3), (17, .bool true), (18, .bool true), (19, .bool true), (20, .slice (some ⟨r, 0, none⟩) 3 3), (21, .pointer (some ⟨r, 0, none⟩)), (22, .agg #[.int .u8 0, .int .u8 0]), (23, .agg #[.int .u8 0, .int .u8 0]), (24, .bool true), (25, .bool true), (26, .bool true), (27, .slice (some ⟨r, 0, none⟩) 3 3)] 33 [] (W) a w | 17 => SR [(1, .slice (some ⟨r, 0, none⟩) 3 3), (2, .int .i64 0), (12, .int .i64 0), (13, .bool true), (14, .bool true), (15, .slice (some ⟨r, 0, none⟩) 3 3), (16, .int .i64 3), (17, .bool true), (18, .bool true), (19, .bool true), (20, .slice (some ⟨r, 0, none⟩) 3 3), (21, .pointer (some ⟨r, 0, none⟩)), (22, .agg #[.int .u8 0, .int .u8 0]), (23, .agg #[.int .u8 0, .int .u8 0]), (24, .bool true), (25, .bool true), (26, .bool true), (27, .slice (some ⟨r, 0, none⟩) 3 3), (28, .pointer (some ⟨r, 4, none⟩))] 33 [] (W) a w | 18 => SR [(1, .slice (some ⟨r, 0, none⟩) 3 3), (2, .int .i64 0), (12, .int .i64 0), (13, .bool true), (14, .bool true), (15, .slice (some ⟨r, 0, none⟩) 3 3), (16, .int .i64 3), (17, .bool true), (18, .bool true), (19, .bool true), (20, .slice (some ⟨r, 0, none⟩) 3 3), (21, .pointer (some ⟨r, 0, none⟩)), (22, .agg #[.int .u8 0, .int .u8 0]), (23, .agg #[.int .u8 0, .int .u8 0]), (24, .bool true), (25, .bool true), (26, .bool true), (27, .slice (some ⟨r, 0, none⟩) 3 3), (28, .pointer (some ⟨r, 4, none⟩)), (29, .agg #[.int .u8 15, .int .u8 0])] 33 [] (W) a w | 19 => SR [(1, .slice (some ⟨r, 0, none⟩) 3 3), (2, .int .i64 0), (12, .int .i64 0), (13, .bool true), (14, .bool true), (15, .slice (some ⟨r, 0, none⟩) 3 3), (16, .int .i64 3), (17, .bool true), (18, .bool true), (19, .bool true), (20, .slice (some ⟨r, 0, none⟩) 3 3), (21, .pointer (some ⟨r, 0, none⟩)), (22, .agg #[.int .u8 0, .int .u8 0]), (23, .agg #[.int .u8 0, .int .u8 0]), (24, .bool true), (25, .bool true), (26, .bool true), (27, .slice (some ⟨r, 0, none⟩) 3 3), (28, .pointer (some ⟨r, 4, none⟩)), (29, .agg #[.int .u8 15, .int .u8 0]), (30, .agg #[.int .u8 15, .int .u8 0])] 33 [] (W) a w | 20 => SR [(1, .slice (some ⟨r, 0, none⟩) 3 3), (2, .int .i64 0), (12, .int .i64 0), (13, .bool true), (14, .bool true), (15, .slice (some ⟨r, 0, none⟩) 3 3), (16, .int .i64 3), (17, .bool true), (18, .bool true), (19, .bool true), (20, .slice (some ⟨r, 0, none⟩) 3 3), (21, .pointer (some ⟨r, 0, none⟩)), (22, .agg #[.int .u8 0, .int .u8 0]), (23, .agg #[.int .u8 0, .int .u8 0]), (24, .bool true), (25, .bool true), (26, .bool true), (27, .slice (some ⟨r, 0, none⟩) 3 3), (28, .pointer (some ⟨r, 4, none⟩)), (29, .agg #[.int .u8 15, .int .u8 0]), (30, .agg #[.int .u8 15, .int .u8 0]), (31, .bool true)] 33 [] (W) a w | 21 => SR [(1, .slice (some ⟨r, 0, none⟩) 3 3), (2, .int .i64 0), (12, .int .i64 0), (13, .bool true), (14, .bool true), (15, .slice (some ⟨r, 0, none⟩) 3 3), (16, .int .i64 3), (17, .bool true), (18, .bool true), (19, .bool true), (20, .slice (some ⟨r, 0, none⟩) 3 3), (21, .pointer (some ⟨r, 0, none⟩)), (22, .agg #[.int .u8 0, .int .u8 0]), (23, .agg #[.int .u8 0, .int .u8 0]), (24, .bool true), (25, .bool true), (26, .bool true), (27, .slice (some ⟨r, 0, none⟩) 3 3), (28, .pointer (some ⟨r, 4, none⟩)), (29, .agg #[.int .u8 15, .int .u8 0]), (30, .agg #[.int .u8 15, .int .u8 0]), (31, .bool true), (32, .bool true)] 33 [] (W) a w | _ => SR [(1, .slice (some ⟨r, 0, none⟩) 3 3), (2, .int .i64 0), (12, .int .i64 0), (13, .bool true), (14, .bool true), (15, .slice (some ⟨r, 0, none⟩) 3 3), (16, .int .i64 3), (17, .bool true), (18, .bool true), (19, .bool true), (20, .slice (some ⟨r, 0, none⟩) 3 3), (21, .pointer (some ⟨r, 0, none⟩)), (22, .agg #[.int .u8 0, .int .u8 0]), (23, .agg #[.int .u8 0, .int .u8 0]), (24, .bool true), (25, .bool true), (26, .bool true), (27, .slice (some ⟨r, 0, none⟩) 3 3), (28, .pointer (some ⟨r, 4, none⟩)), (29, .agg #[.int .u8 15, .int .u8 0]), (30, .agg #[.int .u8 15, .int .u8 0]), (31, .bool true), (32, .bool true), (0, .bool true)] 33 [] (W) a w) h0 ⟨?_, ?_, ?_, ?_, ?_, ?_, ?_, ?_, ?_, ?_, ?_, ?_, ?_, ?_, ?_, ?_, ?_, ?_, ?_, ?_, ?_, ?_, trivial⟩ ?_
  · intro a w hI
    have hI : SR _ _ _ _ a w := hI
    have e2 := hI.g 2 rfl
    have hw : w = W := hI.wp
    subst hw
    go_simp
    exact hI.put (d := 12) (by decide) (by simp)
  · intro a w hI
    have hI : SR _ _ _ _ a w := hI
    have e12 := hI.g 12 rfl
    have hw : w = W := hI.wp
    subst hw
    go_simp
    exact hI.put (d := 13) (by decide) (by simp)
  · intro a w hI
    have hI : SR _ _ _ _ a w := hI
    have e13 := hI.g 13 rfl
    have hw : w = W := hI.wp
    subst hw
    go_simp
    exact hI.put (d := 14) (by decide) (by simp)
  · intro a w hI
    have hI : SR _ _ _ _ a w := hI
    have e1 := hI.g 1 rfl
    have e14 := hI.g 14 rfl
    have f14 := slot_bool e14
    have hw : w = W := hI.wp
    subst hw
    go_simp
    exact hI.put (d := 15) (by decide) (by simp)
  · intro a w hI
    have hI : SR _ _ _ _ a w := hI
    have e15 := hI.g 15 rfl
    have e14 := hI.g 14 rfl
    have f14 := slot_bool e14
    have hw : w = W := hI.wp
    subst hw
    go_simp
    exact hI.put (d := 16) (by decide) (by simp)
  · intro a w hI
    have hI : SR _ _ _ _ a w := hI
    have e16 := hI.g 16 rfl
    have e14 := hI.g 14 rfl
    have f14 := slot_bool e14
    have hw : w = W := hI.wp
    subst hw
    go_simp
    exact hI.put (d := 17) (by decide) (by simp)
  · intro a w hI
    have hI : SR _ _ _ _ a w := hI
    have e14 := hI.g 14 rfl
    have e17 := hI.g 17 rfl
    have hw : w = W := hI.wp
    subst hw
    go_simp
    exact hI.put (d := 18) (by decide) (by simp)
  · intro a w hI
    have hI : SR _ _ _ _ a w := hI
    have e18 := hI.g 18 rfl
    have hw : w = W := hI.wp
    subst hw
    go_simp
    exact hI.put (d := 19) (by decide) (by simp)
  · intro a w hI
    have hI : SR _ _ _ _ a w := hI
    have e1 := hI.g 1 rfl
    have e19 := hI.g 19 rfl
    have f19 := slot_bool e19
    have hw : w = W := hI.wp
    subst hw
    go_simp
    exact hI.put (d := 20) (by decide) (by simp)
  · intro a w hI
    have hI : SR _ _ _ _ a w := hI
    have e20 := hI.g 20 rfl
    have e19 := hI.g 19 rfl
    have f19 := slot_bool e19
    have hw : w = W := hI.wp
    subst hw
    go_simp
    exact hI.put (d := 21) (by decide) (by simp)
  · intro a w hI
    have hI : SR _ _ _ _ a w := hI
    have e21 := hI.g 21 rfl
    have e19 := hI.g 19 rfl
    have f19 := slot_bool e19
    have hw : w = W := hI.wp
    subst hw
    have k0 := c0
    have k1 := c1
    go_simp
    exact hI.put (d := 22) (by decide) (by simp)
  · intro a w hI
    have hI : SR _ _ _ _ a w := hI
    have e19 := hI.g 19 rfl
    have f19 := slot_bool e19
    have hw : w = W := hI.wp
    subst hw
    go_simp
    exact hI.put (d := 23) (by decide) (by simp)
  · intro a w hI
    have hI : SR _ _ _ _ a w := hI
    have e22 := hI.g 22 rfl
    have e23 := hI.g 23 rfl
    have e19 := hI.g 19 rfl
    have f19 := slot_bool e19
    have hw : w = W := hI.wp
    subst hw
    go_simp
    exact hI.put (d := 24) (by decide) (by simp)
  · intro a w hI
    have hI : SR _ _ _ _ a w := hI
    have e19 := hI.g 19 rfl
    have e24 := hI.g 24 rfl
    have hw : w = W := hI.wp
    subst hw
    go_simp
    exact hI.put (d := 25) (by decide) (by simp)
  · intro a w hI
    have hI : SR _ _ _ _ a w := hI
    have e25 := hI.g 25 rfl
    have hw : w = W := hI.wp
    subst hw
    go_simp
    exact hI.put (d := 26) (by decide) (by simp)
  · intro a w hI
    have hI : SR _ _ _ _ a w := hI
    have e1 := hI.g 1 rfl
    have e26 := hI.g 26 rfl
    have f26 := slot_bool e26
    have hw : w = W := hI.wp
    subst hw
    go_simp
    exact hI.put (d := 27) (by decide) (by simp)
  · intro a w hI
    have hI : SR _ _ _ _ a w := hI
    have e27 := hI.g 27 rfl
    have e26 := hI.g 26 rfl
    have f26 := slot_bool e26
    have hw : w = W := hI.wp
    subst hw
    go_simp
    exact hI.put (d := 28) (by decide) (by simp)
  · intro a w hI
    have hI : SR _ _ _ _ a w := hI
    have e28 := hI.g 28 rfl
    have e26 := hI.g 26 rfl
    have f26 := slot_bool e26
    have hw : w = W := hI.wp
    subst hw
    have k4 := c4
    have k5 := c5
    go_simp
    exact hI.put (d := 29) (by decide) (by simp)
  · intro a w hI
    have hI : SR _ _ _ _ a w := hI
    have e26 := hI.g 26 rfl
    have f26 := slot_bool e26
    have hw : w = W := hI.wp
    subst hw
    go_simp
    exact hI.put (d := 30) (by decide) (by simp)
  · intro a w hI
    have hI : SR _ _ _ _ a w := hI
    have e29 := hI.g 29 rfl
    have e30 := hI.g 30 rfl
    have e26 := hI.g 26 rfl
    have f26 := slot_bool e26
    have hw : w = W := hI.wp
    subst hw
    go_simp
    exact hI.put (d := 31) (by decide) (by simp)
  · intro a w hI
    have hI : SR _ _ _ _ a w := hI
    have e26 := hI.g 26 rfl
    have e31 := hI.g 31 rfl
    have hw : w = W := hI.wp
    subst hw
    go_simp
    exact hI.put (d := 32) (by decide) (by simp)
  · intro a w hI
    have hI : SR _ _ _ _ a w := hI
    have e32 := hI.g 32 rfl
    have hw : w = W := hI.wp
    subst hw
    go_simp
    exact hI.put (d := 0) (by decide) (by simp)
  · intro a w hI
    have hI : SR _ _ _ _ a w := hI
    have hw : w = W := hI.wp
    subst hw
    exact hQ a hI.defers (hI.kn (0, .bool true) (by simp))
theorem r13_0 (n : Nat) (W : World) (Q : Exit → Act → World → Prop) (a : Act) (h0 : SR [] 33 [] W a W) (hQ : ∀ a, SR [] 33 [] W a W → Q .normal a W) : (regOf 0 C13).wpIn Fence.wide n Try.prog Q a W := by
  simp only [regOf, C13, Try.f13, Option.getD, Nat.reduceBEq, Bool.false_eq_true, if_true, if_false]
  refine region_sq (fun k_ a w => match k_ with | 0 => SR [] 33 [] (W) a w | _ => SR [(0, .bool false)] 33 [] (W) a w) h0 ⟨?_, trivial⟩ ?_
  · intro a w hI
    have hI : SR _ _ _ _ a w := hI
    have hw : w = W := hI.wp
    subst hw
    go_simp
    exact hI.put (d := 0) (by decide) (by simp)
  · intro a w hI
    have hI : SR _ _ _ _ a w := hI
    have hw : w = W := hI.wp
    subst hw
    exact hQ a (hI.sub (by simp))
theorem works_in (n : Nat) (W : World) : CallsIn Fence.wide n Try.prog 13 #[] W fun e w' => e = .returned (.bool true) ∧ Below W.heap.size W w' := by
  refine callsIn_of_wp Try.func13 rfl trivial ?_
  show C13.wpIn _ _ _ _ _ _
  rw [show C13 = .seq (regOf 0 C13) (.seq (regOf 1 C13) (.seq (regOf 2 C13) .ret)) from by kernel_rfl]
  refine wpIn_seq ?_
  have h0 : SR [] 33 [] W { tmps := (#[] : Array Value) ++ Array.replicate (Try.f13.ntmps - (#[] : Array Value).size) undef, defers := [] } W := ⟨by simp [Try.ntmps13], rfl, by simp, rfl⟩
  refine r13_0 n W _ _ h0 ?_
  intro a1 h1
  refine wpIn_seq (r13_1 n W _ a1 h1 ?_)
  rintro a2 w r ⟨hr, hh, hb⟩ h2
  refine wpIn_seq (r13_2 n w r (by simp [World.cell?, hh]) (by simp [World.cell?, hh]) (by simp [World.cell?, hh]) (by simp [World.cell?, hh]) _ a2 h2 ?_)
  intro a3 hd h3
  exact wpIn_ret ⟨hd, _, results_tmp (t := 0) rfl _ _ _, by rw [Array.getD_eq_getD_getElem?, h3], hb⟩
end Go.Proofs.Ytmgiabehooghcaa
/-! from zm -/
namespace Go.Proofs.Ytmgiabehooghcaa
open Go.RowKit Go.Shelf
attribute [local go_sem] Oper.semAt_some

/-! ### What is known of a world under way -/
structure SG (kn : List (Nat × Value)) (sz : Nat) (G : World → Prop) (a : Act) (w : World) : Prop where
  size : a.tmps.size = sz
  defers : a.defers = []
  kn : ∀ p ∈ kn, a.tmps[p.1]?.getD undef = p.2
  wp : G w
def Stable (G : World → Prop) : Prop := ∀ w w', G w → Below w.heap.size w w' → G w'
theorem SG.put {kn kn2 : List (Nat × Value)} {sz : Nat} {G G' : World → Prop} {a : Act} {w w' : World} (h : SG kn sz G a w) {d : Nat} {v : Value} (hd : d < sz) (h2 : ∀ p ∈ kn2, p.1 = d ∧ p.2 = v ∨ p.1 ≠ d ∧ p ∈ kn) (hg : G' w') : SG kn2 sz G' { tmps := a.tmps.setIfInBounds d v, defers := a.defers } w' where
  size := by simpa using h.size
  defers := h.defers
  kn := fun p hp => by
    have := put_getD a d p.1 v (by rw [h.size]; exact hd)
    rw [show ({ tmps := a.tmps.setIfInBounds d v, defers := a.defers } : Act) = a.put (some d) v from rfl, this]
    rcases h2 p hp with ⟨h1, h3⟩ | ⟨h1, h3⟩
    · rw [if_pos h1, h3]
    · rw [if_neg h1]; exact h.kn p h3
  wp := hg
theorem SG.none {kn : List (Nat × Value)} {sz : Nat} {G G' : World → Prop} {a : Act} {w w' : World} (h : SG kn sz G a w) (hg : G' w') : SG kn sz G' a w' := ⟨h.size, h.defers, h.kn, hg⟩
theorem SG.sub {kn kn' : List (Nat × Value)} {sz : Nat} {G : World → Prop} {a : Act} {w : World} (h : SG kn sz G a w) (hs : ∀ p ∈ kn', p ∈ kn) : SG kn' sz G a w := ⟨h.size, h.defers, fun p hp => h.kn p (hs p hp), h.wp⟩
theorem SG.sr {kn : List (Nat × Value)} {sz : Nat} {G : World → Prop} {a : Act} {w : World} (h : SG kn sz G a w) : SR kn sz [] w a w := ⟨h.size, h.defers, h.kn, rfl⟩
theorem SR.sg {kn : List (Nat × Value)} {sz : Nat} {G : World → Prop} {a : Act} {W w : World} (h : SR kn sz [] W a w) (hg : G w) : SG kn sz G a w := ⟨h.size, h.defers, h.kn, hg⟩
/-- All that lay lies as it lay; and these blocks are new. -/
structure Has (W0 : World) (bs : List (Nat × Obj)) (W : World) : Prop where
  bel : Below W0.heap.size W0 W
  blk : ∀ p ∈ bs, W.heap[p.1]? = some p.2
  new : ∀ p ∈ bs, W0.heap.size ≤ p.1
  nd : (bs.map Prod.fst).Nodup
section
variable {W0 W w w' : World} {bs : List (Nat × Obj)}
theorem Has.start (W0 : World) : Has W0 [] W0 := ⟨Below.refl _ _, by simp, by simp, by simp⟩
theorem Has.lt (h : Has W0 bs W) {p : Nat × Obj} (hp : p ∈ bs) : p.1 < W.heap.size := (Array.getElem?_eq_some_iff.1 (h.blk p hp)).1
theorem Has.below (h : Has W0 bs w) (hb : Below w.heap.size w w') : Has W0 bs w' :=
  ⟨h.bel.trans (hb.mono h.bel.size), fun p hp => (hb.block _ (h.lt hp)).trans (h.blk p hp), h.new, h.nd⟩
theorem Has.stable (W0 : World) (bs : List (Nat × Obj)) : Stable (Has W0 bs) := fun _ _ h hb => h.below hb
theorem Has.add (h : Has W0 bs w) (hb : Below w.heap.size w w') {r : Nat} {o : Obj} (hr : w.heap.size ≤ r) (ho : w'.heap[r]? = some o) : Has W0 ((r, o) :: bs) w' where
  bel := (h.below hb).bel
  blk := fun p hp => by rcases List.mem_cons.1 hp with rfl | hp
                        · exact ho
                        · exact (h.below hb).blk p hp
  new := fun p hp => by rcases List.mem_cons.1 hp with rfl | hp
                        · exact Nat.le_trans h.bel.size hr
                        · exact h.new p hp
  nd := by
    simp only [List.map_cons, List.nodup_cons]
    refine ⟨fun hm => ?_, h.nd⟩
    obtain ⟨p, hp, e⟩ := List.mem_map.1 hm
    have := h.lt hp
    omega
theorem Has.alloc (h : Has W0 bs w) (o : Obj) : Has W0 ((w.heap.size, o) :: bs) (w.alloc o) := h.add ((Below.refl _ _).alloc (Nat.le_refl _) _) (Nat.le_refl _) (World.alloc_heap_new w o)
theorem Has.tail {p : Nat × Obj} (h : Has W0 (p :: bs) w) : Has W0 bs w := ⟨h.bel, fun q hq => h.blk q (by simp [hq]), fun q hq => h.new q (by simp [hq]), by have := h.nd; simp only [List.map_cons, List.nodup_cons] at this; exact this.2⟩
theorem Has.set {b m : Nat} {cs : Array Value} {t : TypeId} (h : Has W0 ((b, .cells cs t (0, 0)) :: bs) w) (v : Value) : Has W0 ((b, .cells (cs.setIfInBounds m v) t (0, 0)) :: bs) (w.setCell ⟨b, m, none⟩ v) where
  bel := h.bel.setCell (p := ⟨b, m, none⟩) (h.new _ List.mem_cons_self) v
  blk := fun p hp => by
    rcases List.mem_cons.1 hp with rfl | hp
    · exact setCell_heap_same (h.blk _ List.mem_cons_self) v
    · have hne : p.1 ≠ b := fun e => by
        have := h.nd
        simp only [List.map_cons, List.nodup_cons] at this
        exact this.1 (List.mem_map.2 ⟨p, hp, e⟩)
      exact (Below.heap_setCell w ⟨b, m, none⟩ v p.1 hne).trans (h.blk p (by simp [hp]))
  new := fun p hp => by
    rcases List.mem_cons.1 hp with rfl | hp
    · exact h.new (b, .cells cs t (0, 0)) List.mem_cons_self
    · exact h.new p (by simp [hp])
  nd := by have := h.nd; simpa using this
theorem Has.perm {bs' : List (Nat × Obj)} (h : Has W0 bs w) (hp : bs'.Perm bs) : Has W0 bs' w :=
  ⟨h.bel, fun p h1 => h.blk p (hp.mem_iff.1 h1), fun p h1 => h.new p (hp.mem_iff.1 h1), (hp.map _).nodup_iff.2 h.nd⟩
theorem Has.cell (h : Has W0 bs w) {b : Nat} {cs : Array Value} {t : TypeId} {fr : Nat × Nat} (hm : (b, Obj.cells cs t fr) ∈ bs) {j : Nat} {v : Value} (hv : cs[j]? = some v) : w.cell? ⟨b, j, none⟩ = some v := by
  have := h.blk _ hm
  simp only at this
  simp [World.cell?, this, hv]
theorem Has.old (h : Has W0 bs w) {b j : Nat} (hb : b < W0.heap.size) {v : Value} (hv : W0.cell? ⟨b, j, none⟩ = some v) : w.cell? ⟨b, j, none⟩ = some v := (h.bel.cell (p := ⟨b, j, none⟩) hb).trans hv
theorem Has.unfrozen (h : Has W0 bs w) {b : Nat} {cs : Array Value} {t : TypeId} (hm : (b, Obj.cells cs t (0, 0)) ∈ bs) (j : Nat) : w.frozen? ⟨b, j, none⟩ = false := by
  have := h.blk _ hm
  simp only at this
  unfold World.frozen?
  rw [this]
  rfl
end
theorem slot_undef {a : Act} {t : Nat} (h : a.tmps[t]?.getD undef = undef) (hs : t < a.tmps.size) : a.tmps[t]? = some (.tuple #[]) := by
  rw [Array.getElem?_eq_getElem hs] at h ⊢
  simp only [Option.getD_some] at h
  rw [h]; rfl
theorem SG.g {kn : List (Nat × Value)} {sz : Nat} {G : World → Prop} {a : Act} {w : World} (h : SG kn sz G a w) (t : Nat) {v : Value} (hp : kn.lookup t = some v) : a.tmps[t]?.getD undef = v := h.kn _ (mem_of_lookup hp)
/-! ### open -/
noncomputable def C17 : Code := Try.f17.body.getD .skip
set_option maxHeartbeats 1000000 in
theorem r17_0 (n : Nat) (W : World) (k v : Nat) (Q : Exit → Act → World → Prop) (a : Act) (h0 : SR [(0, .agg #[.int .u8 k, .int .u8 v])] 10 [] W a W)
    (hQ : ∀ a, SR [(1, .pointer (some ⟨W.heap.size, 0, none⟩))] 10 [] (W.alloc (.cells #[.int .u8 k, .int .u8 v] 32)) a (W.alloc (.cells #[.int .u8 k, .int .u8 v] 32)) → Q .normal a (W.alloc (.cells #[.int .u8 k, .int .u8 v] 32))) : (regOf 0 C17).wpIn Fence.wide n Try.prog Q a W := by
  simp only [regOf, C17, Try.f17, Option.getD, Nat.reduceBEq, Bool.false_eq_true, if_true, if_false]
  refine region_sq (fun k_ a w => match k_ with | 0 => SR [(0, .agg #[.int .u8 k, .int .u8 v])] 10 [] (W) a w | 1 => SR [(1, .pointer (some ⟨W.heap.size, 0, none⟩))] 10 [] (W.alloc (.cells #[.int .u8 k, .int .u8 v] 32)) a w | _ => SR [(1, .pointer (some ⟨W.heap.size, 0, none⟩))] 10 [] (W.alloc (.cells #[.int .u8 k, .int .u8 v] 32)) a w) h0 ⟨?_, ?_, trivial⟩ ?_
  · intro a w hI
    have hI : SR _ _ _ _ a w := hI
    have e0 := hI.g 0 rfl
    have hw : w = W := hI.wp
    subst hw
    go_simp
    exact hI.put (d := 1) (by decide) (by simp)
  · intro a w hI
    have hI : SR _ _ _ _ a w := hI
    obtain rfl : w = W.alloc (.cells #[.int .u8 k, .int .u8 v] 32) := hI.wp
    go_simp
    exact hI.put (d := 2) (by decide) (by simp)
  · intro a w hI
    obtain rfl := hI.wp
    exact hQ a hI
set_option maxHeartbeats 1000000 in
theorem r17_1t (n : Nat) (W : World) (B k v : Nat) (c0 : W.cell? ⟨B, 0, none⟩ = some (.int .u8 k)) (c1 : W.cell? ⟨B, 1, none⟩ = some (.int .u8 v)) (z : B < W.heap.size)
    (hmay : ∀ m W, CallsIn Fence.wide m Try.prog 30 #[.agg #[.int .u8 k, .int .u8 v]] W fun e w' => e = .returned (.bool true) ∧ Below W.heap.size W w')
    (hclear : ∀ m W, CallsIn Fence.wide m Try.prog 31 #[.int .u8 k] W fun e w' => e = .returned (.bool (K.clear k)) ∧ Below W.heap.size W w')
    (Q : Exit → Act → World → Prop) (a : Act) (h0 : SR [(1, .pointer (some ⟨B, 0, none⟩))] 10 [] W a W)
    (hQ : ∀ a w, a.defers = [] → a.tmps[2]?.getD undef = .bool (K.clear k) → Below W.heap.size W w → Q .normal a w) : (regOf 1 C17).wpIn Fence.wide n Try.prog Q a W := by
  simp only [regOf, C17, Try.f17, Option.getD, Nat.reduceBEq, Bool.false_eq_true, if_true, if_false]
  refine region_seq (RI [(1, .pointer (some ⟨B, 0, none⟩))]
    [(0, 3, .agg #[.int .u8 k, .int .u8 v]), (1, 4, .bool true), (2, 5, .bool true), (3, 6, .pointer (some ⟨B, 0, none⟩)), (4, 7, .int .u8 k), (5, 8, .bool (K.clear k)), (6, 9, .bool (K.clear k)), (7, 2, .bool (K.clear k))] 10 [] (fun _ w => Below W.heap.size W w)) (by kernel_rfl) ⟨h0.size, h0.defers, h0.kn, by simp, Below.refl _ _⟩ ⟨?_, ?_, ?_, ?_, ?_, ?_, ?_, ?_, trivial⟩ ?_
  · intro X a w hX hdep hC hI
    have e1 := hI.gi 1 rfl
    have cc0 := (hI.wp.cell (p := ⟨B, 0, none⟩) z).trans c0
    have cc1 := (hI.wp.cell (p := ⟨B, 1, none⟩) z).trans c1
    go_simp
    exact hI.put' (k := 0) (d := 3) (v := .agg #[.int .u8 k, .int .u8 v]) (by decide) (by simp) (by simp) (by simp) hI.wp
  · intro X a w hX hdep hC hI
    have x0 : X 0 = true := hdep ⟨0, .data⟩ (by simp) rfl
    have e3 := hI.gk 0 rfl x0
    go_simp
    refine ⟨trivial, fun h => (by cases h), (hmay (n - 1) w).mono ?_⟩
    rintro e w' ⟨rfl, hb⟩
    exact hI.put' (k := 1) (d := 4) (v := .bool true) (by decide) (by simp) (by simp) (by simp) (hI.wp.trans (hb.mono hI.wp.size))
  · intro X a w hX hdep hC hI
    have x1 : X 1 = true := hdep ⟨1, .data⟩ (by simp) rfl
    have e4 := hI.gk 1 rfl x1
    go_simp
    exact hI.put' (k := 2) (d := 5) (v := .bool true) (by decide) (by simp) (by simp) (by simp) hI.wp
  · intro X a w hX hdep hC hI
    have x2 : X 2 = true := hdep ⟨2, .guard⟩ (by simp) rfl
    have e1 := hI.gi 1 rfl
    have e5 := hI.gk 2 rfl x2
    have f5 := slot_bool e5
    go_simp
    exact hI.put' (k := 3) (d := 6) (v := .pointer (some ⟨B, 0, none⟩)) (by decide) (by simp) (by simp) (by simp) hI.wp
  · intro X a w hX hdep hC hI
    have x3 : X 3 = true := hdep ⟨3, .data⟩ (by simp) rfl
    have x2 : X 2 = true := hdep ⟨2, .guard⟩ (by simp) rfl
    have e6 := hI.gk 3 rfl x3
    have e5 := hI.gk 2 rfl x2
    have f5 := slot_bool e5
    have cc0 := (hI.wp.cell (p := ⟨B, 0, none⟩) z).trans c0
    go_simp
    exact hI.put' (k := 4) (d := 7) (v := .int .u8 k) (by decide) (by simp) (by simp) (by simp) hI.wp
  · intro X a w hX hdep hC hI
    have x4 : X 4 = true := hdep ⟨4, .data⟩ (by simp) rfl
    have x2 : X 2 = true := hdep ⟨2, .chain⟩ (by simp) rfl
    have e7 := hI.gk 4 rfl x4
    have e5 := hI.gk 2 rfl x2
    have f5 := slot_bool e5
    go_simp
    refine ⟨trivial, fun h => (by cases h), (hclear (n - 1) w).mono ?_⟩
    rintro e w' ⟨rfl, hb⟩
    exact hI.put' (k := 5) (d := 8) (v := .bool (K.clear k)) (by decide) (by simp) (by simp) (by simp) (hI.wp.trans (hb.mono hI.wp.size))
  · intro X a w hX hdep hC hI
    have x2 : X 2 = true := hdep ⟨2, .data⟩ (by simp) rfl
    have x5 : X 5 = true := hdep ⟨5, .data⟩ (by simp) rfl
    have e5 := hI.gk 2 rfl x2
    have e8 := hI.gk 5 rfl x5
    go_simp
    exact hI.put' (k := 6) (d := 9) (v := .bool (K.clear k)) (by decide) (by simp) (by simp) (by simp) hI.wp
  · intro X a w hX hdep hC hI
    have x6 : X 6 = true := hdep ⟨6, .data⟩ (by simp) rfl
    have e9 := hI.gk 6 rfl x6
    go_simp
    exact hI.put' (k := 7) (d := 2) (v := .bool (K.clear k)) (by decide) (by simp) (by simp) (by simp) hI.wp
  · intro X a w hX hI
    exact hQ a w hI.defers (hI.kn (7, 2, .bool (K.clear k)) (by simp) (hX 7 (by simp))) hI.wp
set_option maxHeartbeats 1000000 in
theorem r17_1f (n : Nat) (W : World) (B k v : Nat) (c0 : W.cell? ⟨B, 0, none⟩ = some (.int .u8 k)) (c1 : W.cell? ⟨B, 1, none⟩ = some (.int .u8 v)) (z : B < W.heap.size)
    (hmay : ∀ m W, CallsIn Fence.wide m Try.prog 30 #[.agg #[.int .u8 k, .int .u8 v]] W fun e w' => e = .returned (.bool false) ∧ Below W.heap.size W w')
    (Q : Exit → Act → World → Prop) (a : Act) (h0 : SR [(1, .pointer (some ⟨B, 0, none⟩))] 10 [] W a W)
    (hQ : ∀ a w, a.defers = [] → a.tmps[2]?.getD undef = .bool (false) → Below W.heap.size W w → Q .normal a w) : (regOf 1 C17).wpIn Fence.wide n Try.prog Q a W := by
  simp only [regOf, C17, Try.f17, Option.getD, Nat.reduceBEq, Bool.false_eq_true, if_true, if_false]
  refine region_seq (RI [(1, .pointer (some ⟨B, 0, none⟩))]
    [(0, 3, .agg #[.int .u8 k, .int .u8 v]), (1, 4, .bool false), (2, 5, .bool false), (6, 9, .bool false), (7, 2, .bool false)] 10 [] (fun _ w => Below W.heap.size W w)) (by kernel_rfl) ⟨h0.size, h0.defers, h0.kn, by simp, Below.refl _ _⟩ ⟨?_, ?_, ?_, ?_, ?_, ?_, ?_, ?_, trivial⟩ ?_
  · intro X a w hX hdep hC hI
    have e1 := hI.gi 1 rfl
    have cc0 := (hI.wp.cell (p := ⟨B, 0, none⟩) z).trans c0
    have cc1 := (hI.wp.cell (p := ⟨B, 1, none⟩) z).trans c1
    go_simp
    exact hI.put' (k := 0) (d := 3) (v := .agg #[.int .u8 k, .int .u8 v]) (by decide) (by simp) (by simp) (by simp) hI.wp
  · intro X a w hX hdep hC hI
    have x0 : X 0 = true := hdep ⟨0, .data⟩ (by simp) rfl
    have e3 := hI.gk 0 rfl x0
    go_simp
    refine ⟨trivial, fun h => (by cases h), (hmay (n - 1) w).mono ?_⟩
    rintro e w' ⟨rfl, hb⟩
    exact hI.put' (k := 1) (d := 4) (v := .bool false) (by decide) (by simp) (by simp) (by simp) (hI.wp.trans (hb.mono hI.wp.size))
  · intro X a w hX hdep hC hI
    have x1 : X 1 = true := hdep ⟨1, .data⟩ (by simp) rfl
    have e4 := hI.gk 1 rfl x1
    go_simp
    exact hI.put' (k := 2) (d := 5) (v := .bool false) (by decide) (by simp) (by simp) (by simp) hI.wp
  · intro X a w hX hdep hC hI
    have x2 : X 2 = true := hdep ⟨2, .guard⟩ (by simp) rfl
    have e1 := hI.gi 1 rfl
    have e5 := hI.gk 2 rfl x2
    have f5 := slot_bool e5
    go_simp
    exact hI.put' (k := 3) (d := 6) (by decide) (by simp) (by simp) (by simp) hI.wp
  · intro X a w hX hdep hC hI
    have x2 : X 2 = true := hdep ⟨2, .guard⟩ (by simp) rfl
    have e5 := hI.gk 2 rfl x2
    have f5 := slot_bool e5
    have cc0 := (hI.wp.cell (p := ⟨B, 0, none⟩) z).trans c0
    go_simp
    exact hI.put' (k := 4) (d := 7) (by decide) (by simp) (by simp) (by simp) hI.wp
  · intro X a w hX hdep hC hI
    have x2 : X 2 = true := hdep ⟨2, .chain⟩ (by simp) rfl
    have e5 := hI.gk 2 rfl x2
    have f5 := slot_bool e5
    go_simp
    refine ⟨trivial, ?_⟩
    exact hI.put' (k := 5) (d := 8) (by decide) (by simp) (by simp) (by simp) hI.wp
  · intro X a w hX hdep hC hI
    have x2 : X 2 = true := hdep ⟨2, .data⟩ (by simp) rfl
    have e5 := hI.gk 2 rfl x2
    go_simp
    exact hI.put' (k := 6) (d := 9) (v := .bool false) (by decide) (by simp) (by simp) (by simp) hI.wp
  · intro X a w hX hdep hC hI
    have x6 : X 6 = true := hdep ⟨6, .data⟩ (by simp) rfl
    have e9 := hI.gk 6 rfl x6
    go_simp
    exact hI.put' (k := 7) (d := 2) (v := .bool false) (by decide) (by simp) (by simp) (by simp) hI.wp
  · intro X a w hX hI
    exact hQ a w hI.defers (hI.kn (7, 2, .bool (false)) (by simp) (hX 7 (by simp))) hI.wp
theorem open_in (n k v : Nat) (hk : k ≤ 255) (hv : v ≤ 255) (W : World) : CallsIn Fence.wide n Try.prog 17 #[.agg #[.int .u8 k, .int .u8 v]] W fun e w' => e = .returned (.bool (K.may k v && K.clear k)) ∧ Below W.heap.size W w' := by
  have hmay : ∀ m W, CallsIn Fence.wide m Try.prog 30 #[.agg #[.int .u8 k, .int .u8 v]] W fun e w' => e = .returned (.bool (K.may k v)) ∧ Below W.heap.size W w' := fun m W => callsIn_wide.2 (Kc.c30 k v (by omega) (by omega) (by omega) (by omega) W)
  have hclear : ∀ m W, CallsIn Fence.wide m Try.prog 31 #[.int .u8 k] W fun e w' => e = .returned (.bool (K.clear k)) ∧ Below W.heap.size W w' := fun m W => callsIn_wide.2 (Kc.c31 k (by omega) (by omega) W)
  refine callsIn_of_wp Try.func17 rfl trivial ?_
  show C17.wpIn _ _ _ _ _ _
  rw [show C17 = .seq (regOf 0 C17) (.seq (regOf 1 C17) .ret) from by kernel_rfl]
  refine wpIn_seq ?_
  refine r17_0 n W k v _ _ ⟨by simp [Try.ntmps17], rfl, by simp [Try.ntmps17], rfl⟩ ?_
  intro a1 h1
  refine wpIn_seq ?_
  have hbx := World.alloc_heap_new W (.cells #[.int .u8 k, .int .u8 v] 32)
  have hb0 : Below W.heap.size W (W.alloc (.cells #[.int .u8 k, .int .u8 v] 32)) := (Below.refl _ _).alloc (Nat.le_refl _) _
  have hsz : W.heap.size < (W.alloc (.cells #[.int .u8 k, .int .u8 v] 32)).heap.size := by simp
  generalize W.alloc (.cells #[.int .u8 k, .int .u8 v] 32) = W1 at h1 hbx hb0 hsz ⊢
  have fin : ∀ (b : Bool) a w, b = (K.may k v && K.clear k) → a.defers = [] → a.tmps[2]?.getD undef = .bool b → Below W1.heap.size W1 w →
      (Code.ret).wpIn Fence.wide n Try.prog (bodyPost Try.prog Try.f17 fun e w' => e = .returned (.bool (K.may k v && K.clear k)) ∧ Below W.heap.size W w') a w := by
    intro b a w hb hd h2 hbl
    refine wpIn_ret ⟨hd, _, results_tmp (t := 2) rfl _ _ _, ?_, hb0.trans (hbl.mono hb0.size)⟩
    rw [Array.getD_eq_getD_getElem?, h2, hb]
  obtain ⟨b, hm⟩ : ∃ b, K.may k v = b := ⟨_, rfl⟩
  cases b with
  | true =>
    rw [hm] at hmay
    refine r17_1t n W1 W.heap.size k v (by simp [World.cell?, hbx]) (by simp [World.cell?, hbx]) hsz hmay hclear _ a1 ⟨h1.size, h1.defers, h1.kn, rfl⟩ ?_
    intro a w hd h2 hbl
    exact fin _ a w (by rw [hm, Bool.true_and]) hd h2 hbl
  | false =>
    rw [hm] at hmay
    refine r17_1f n W1 W.heap.size k v (by simp [World.cell?, hbx]) (by simp [World.cell?, hbx]) hsz hmay _ a1 ⟨h1.size, h1.defers, h1.kn, rfl⟩ ?_
    intro a w hd h2 hbl
    exact fin _ a w (by rw [hm, Bool.false_and]) hd h2 hbl
end Go.Proofs.Ytmgiabehooghcaa
/-! from zo -/
namespace Go.Proofs.Ytmgiabehooghcaa
open Go.RowKit Go.Shelf
attribute [local go_sem] Oper.semAt_some

/-! ### The law's sides -/
noncomputable def C19 : Code := Try.f19.body.getD .skip
structure G19 (W0 : World) (B X Y Z : Nat) (cv : Value) (q : Value) (l : List Nat) (w : World) : Prop where
  bel : Below W0.heap.size W0 w
  nb : W0.heap.size ≤ B
  bx : w.heap[B]? = some (.cells #[.int .i64 X, .int .i64 Y, .int .i64 Z, cv] 24 (0, 0))
  own : w.ownsRow (B + 1) 3 1 q l.length (intsV l)
section
variable {W0 : World} {B X Y Z : Nat} {cv q : Value} {l : List Nat} {w w' : World}
theorem G19.lt (h : G19 W0 B X Y Z cv q l w) : B < w.heap.size := (Array.getElem?_eq_some_iff.1 h.bx).1
theorem G19.below (h : G19 W0 B X Y Z cv q l w) (hb : Below w.heap.size w w') : G19 W0 B X Y Z cv q l w' where
  bel := h.bel.trans (hb.mono h.bel.size)
  nb := h.nb
  bx := (hb.block _ h.lt).trans h.bx
  own := by
    obtain ⟨h1, h2⟩ := h.own
    refine ⟨h1, h2.imp id ?_⟩
    rintro ⟨g, cap, cur, e1, e2, e3, e4⟩
    exact ⟨g, cap, cur, e1, e2, (hb.block g (Array.getElem?_eq_some_iff.1 e3).1).trans e3, e4⟩
theorem G19.stable (W0 : World) (B X Y Z : Nat) (cv q : Value) (l : List Nat) : Stable (G19 W0 B X Y Z cv q l) := fun _ _ h hb => h.below hb
theorem G19.cell (h : G19 W0 B X Y Z cv q l w) {j : Nat} {v : Value} (hv : (#[Value.int .i64 X, .int .i64 Y, .int .i64 Z, cv] : Array Value)[j]? = some v) : w.cell? ⟨B, j, none⟩ = some v := by simp [World.cell?, h.bx, hv]
theorem G19.grown (h : G19 W0 B X Y Z cv q l w) {q' : Value} {s : Nat} (h1 : w'.ownsRow (B + 1) 3 1 q' (l.length + 1) (intsV l ++ [.int .i64 s])) (h2 : w.grownBy w' q.ownBlock) : G19 W0 B X Y Z cv q' (l ++ [s]) w' := by
  have hr : ∀ k, q.ownBlock = some k → B + 1 ≤ k := fun k hk => (h.own.lt k hk).1
  refine ⟨h.bel.grown h2 h.bel.size (fun k hk => by have := hr k hk; have := h.nb; omega), h.nb, (h2.block B h.lt (fun e => by have := hr B e.symm; omega)).trans h.bx, ?_⟩
  have : intsV (l ++ [s]) = intsV l ++ [.int .i64 s] := by simp [intsV]
  rw [this]
  simpa using h1
end
set_option maxRecDepth 100000 in
set_option maxHeartbeats 4000000 in
theorem s0 (n : Nat) (W : World) (X Y Z i : Nat) (cv : Value) (Q : Exit → Act → World → Prop) (a : Act) (h0 : SR [(0, .agg #[.int .i64 X, .int .i64 Y, .int .i64 Z, cv]), (1, .int .i64 i)] 93 [] W a W)
    (hQ : ∀ a, SR [(1, .int .i64 i), (2, .pointer (some ⟨W.heap.size, 0, none⟩))] 93 [] (W.alloc (.cells #[.int .i64 X, .int .i64 Y, .int .i64 Z, cv] 24)) a (W.alloc (.cells #[.int .i64 X, .int .i64 Y, .int .i64 Z, cv] 24)) → Q .normal a (W.alloc (.cells #[.int .i64 X, .int .i64 Y, .int .i64 Z, cv] 24))) : (regOf 0 C19).wpIn Fence.wide n Try.prog Q a W := by
  simp only [regOf, C19, Try.f19, Option.getD, Nat.reduceBEq, Bool.false_eq_true, if_true, if_false]
  refine region_sq (fun k_ a w => match k_ with | 0 => SR [(0, .agg #[.int .i64 X, .int .i64 Y, .int .i64 Z, cv]), (1, .int .i64 i)] 93 [] (W) a w | 1 => SR [(1, .int .i64 i), (2, .pointer (some ⟨W.heap.size, 0, none⟩))] 93 [] (W.alloc (.cells #[.int .i64 X, .int .i64 Y, .int .i64 Z, cv] 24)) a w | _ => SR [(1, .int .i64 i), (2, .pointer (some ⟨W.heap.size, 0, none⟩))] 93 [] (W.alloc (.cells #[.int .i64 X, .int .i64 Y, .int .i64 Z, cv] 24)) a w) (show SR [(0, .agg #[.int .i64 X, .int .i64 Y, .int .i64 Z, cv]), (1, .int .i64 i)] 93 [] W a W from h0) ⟨?_, ?_, trivial⟩ ?_
  · intro a w hI
    have hI : SR _ _ _ _ a w := hI
    have e0 := hI.g 0 rfl
    have hw : w = W := hI.wp
    subst hw
    go_simp
    exact hI.put (d := 2) (by decide) (by simp)
  · intro a w hI
    have hI : SR _ _ _ _ a w := hI
    obtain rfl : w = W.alloc (.cells #[.int .i64 X, .int .i64 Y, .int .i64 Z, cv] 24) := hI.wp
    go_simp
    exact hI.put (d := 4) (by decide) (by simp)
  · intro a w hI
    have hI : SR _ _ _ _ a w := hI
    obtain rfl : w = W.alloc (.cells #[.int .i64 X, .int .i64 Y, .int .i64 Z, cv] 24) := hI.wp
    exact hQ a hI
set_option maxRecDepth 100000 in
set_option maxHeartbeats 4000000 in
theorem s1 (n : Nat) {G : World → Prop} (hS : Stable G) (B X Z i : Nat) (hX : 0 < X) (hZ : 0 < Z) (q0 : (0 : Int) ≤ (i : Int) / X) (q1 : (i : Int) / X ≤ 262144) (q2 : (0 : Int) ≤ (i : Int) / X / Z) (q3 : (i : Int) / X / Z ≤ 262144) (c0 : ∀ w, G w → w.cell? ⟨B, 0, none⟩ = some (.int .i64 X)) (c2 : ∀ w, G w → w.cell? ⟨B, 2, none⟩ = some (.int .i64 Z)) (Q : Exit → Act → World → Prop) (a : Act) (w : World) (h0 : SG [(1, .int .i64 i), (2, .pointer (some ⟨B, 0, none⟩))] 93 G a w)
    (hQ : ∀ a w, SG [(1, .int .i64 i), (2, .pointer (some ⟨B, 0, none⟩)), (5, .int .i64 ((i : Int) % X)), (6, .int .i64 ((i : Int) / X % Z)), (7, .int .i64 ((i : Int) / X / Z))] 93 G a w → Q .normal a w) : (regOf 1 C19).wpIn Fence.wide n Try.prog Q a w := by
  have hmix : Try.prog.follows .mixedOrders = true := by kernel_rfl
  simp only [regOf, C19, Try.f19, Option.getD, Nat.reduceBEq, Bool.false_eq_true, if_true, if_false]
  refine region_inv (RI [(1, .int .i64 i), (2, .pointer (some ⟨B, 0, none⟩))]
    [(0, 9, .int .i64 i), (1, 10, .pointer (some ⟨B, 0, none⟩)), (2, 11, .int .i64 X), (3, 12, .int .i64 ((i : Int) % X)), (4, 13, .int .i64 i), (5, 14, .pointer (some ⟨B, 0, none⟩)), (6, 15, .int .i64 X), (7, 16, .int .i64 ((i : Int) / X)), (8, 17, .pointer (some ⟨B, 2, none⟩)), (9, 18, .int .i64 Z), (10, 19, .int .i64 ((i : Int) / X % Z)), (11, 20, .int .i64 i), (12, 21, .pointer (some ⟨B, 0, none⟩)), (13, 22, .int .i64 X), (14, 23, .int .i64 ((i : Int) / X)), (15, 24, .pointer (some ⟨B, 2, none⟩)), (16, 25, .int .i64 Z), (17, 26, .int .i64 ((i : Int) / X / Z)), (18, 5, .int .i64 ((i : Int) % X)), (19, 6, .int .i64 ((i : Int) / X % Z)), (20, 7, .int .i64 ((i : Int) / X / Z))] 93 [] (fun _ w => G w)) hmix (by kernel_rfl) ⟨h0.size, h0.defers, h0.kn, by simp, hS _ _ h0.wp (Below.refl _ _).drew⟩ ⟨?_, ?_, ?_, ?_, ?_, ?_, ?_, ?_, ?_, ?_, ?_, ?_, ?_, ?_, ?_, ?_, ?_, ?_, ?_, ?_, ?_, trivial⟩ ?_
  · intro Xs a w hX hdep hC hI
    have e1 := hI.gi 1 rfl
    go_simp
    exact hI.put' (k := 0) (d := 9) (v := .int .i64 i) (by decide) (by simp) (by simp) (by simp) hI.wp
  · intro Xs a w hX hdep hC hI
    have e2 := hI.gi 2 rfl
    go_simp
    exact hI.put' (k := 1) (d := 10) (v := .pointer (some ⟨B, 0, none⟩)) (by decide) (by simp) (by simp) (by simp) hI.wp
  · intro Xs a w hX hdep hC hI
    have x1 : Xs 1 = true := hdep ⟨1, .data⟩ (by simp) rfl
    have e10 := hI.gk 1 rfl x1
    have cc0 := c0 w hI.wp
    go_simp
    exact hI.put' (k := 2) (d := 11) (v := .int .i64 X) (by decide) (by simp) (by simp) (by simp) hI.wp
  · intro Xs a w hX hdep hC hI
    have x0 : Xs 0 = true := hdep ⟨0, .data⟩ (by simp) rfl
    have x2 : Xs 2 = true := hdep ⟨2, .data⟩ (by simp) rfl
    have e9 := hI.gk 0 rfl x0
    have e11 := hI.gk 2 rfl x2
    have d1 : ¬ X = 0 := by omega
    go_simp
    exact hI.put' (k := 3) (d := 12) (v := .int .i64 ((i : Int) % X)) (by decide) (by simp) (by simp) (by simp) hI.wp
  · intro Xs a w hX hdep hC hI
    have e1 := hI.gi 1 rfl
    go_simp
    exact hI.put' (k := 4) (d := 13) (v := .int .i64 i) (by decide) (by simp) (by simp) (by simp) hI.wp
  · intro Xs a w hX hdep hC hI
    have e2 := hI.gi 2 rfl
    go_simp
    exact hI.put' (k := 5) (d := 14) (v := .pointer (some ⟨B, 0, none⟩)) (by decide) (by simp) (by simp) (by simp) hI.wp
  · intro Xs a w hX hdep hC hI
    have x5 : Xs 5 = true := hdep ⟨5, .data⟩ (by simp) rfl
    have e14 := hI.gk 5 rfl x5
    have cc0 := c0 w hI.wp
    go_simp
    exact hI.put' (k := 6) (d := 15) (v := .int .i64 X) (by decide) (by simp) (by simp) (by simp) hI.wp
  · intro Xs a w hX hdep hC hI
    have x4 : Xs 4 = true := hdep ⟨4, .data⟩ (by simp) rfl
    have x6 : Xs 6 = true := hdep ⟨6, .data⟩ (by simp) rfl
    have e13 := hI.gk 4 rfl x4
    have e15 := hI.gk 6 rfl x6
    have d1 : ¬ X = 0 := by omega
    have d0 : IntKind.i64.wrap ((i : Int) / X) = (i : Int) / X := wrap_in (by omega) (by omega)
    go_simp
    exact hI.put' (k := 7) (d := 16) (v := .int .i64 ((i : Int) / X)) (by decide) (by simp) (by simp) (by simp) hI.wp
  · intro Xs a w hX hdep hC hI
    have e2 := hI.gi 2 rfl
    go_simp
    exact hI.put' (k := 8) (d := 17) (v := .pointer (some ⟨B, 2, none⟩)) (by decide) (by simp) (by simp) (by simp) hI.wp
  · intro Xs a w hX hdep hC hI
    have x8 : Xs 8 = true := hdep ⟨8, .data⟩ (by simp) rfl
    have e17 := hI.gk 8 rfl x8
    have cc0 := c2 w hI.wp
    go_simp
    exact hI.put' (k := 9) (d := 18) (v := .int .i64 Z) (by decide) (by simp) (by simp) (by simp) hI.wp
  · intro Xs a w hX hdep hC hI
    have x7 : Xs 7 = true := hdep ⟨7, .data⟩ (by simp) rfl
    have x9 : Xs 9 = true := hdep ⟨9, .data⟩ (by simp) rfl
    have e16 := hI.gk 7 rfl x7
    have e18 := hI.gk 9 rfl x9
    have d1 : ¬ Z = 0 := by omega
    have d0 : Int.tmod ((i : Int) / X) (Z : Int) = (i : Int) / X % Z := Int.tmod_eq_emod_of_nonneg q0
    go_simp
    exact hI.put' (k := 10) (d := 19) (v := .int .i64 ((i : Int) / X % Z)) (by decide) (by simp) (by simp) (by simp) hI.wp
  · intro Xs a w hX hdep hC hI
    have e1 := hI.gi 1 rfl
    go_simp
    exact hI.put' (k := 11) (d := 20) (v := .int .i64 i) (by decide) (by simp) (by simp) (by simp) hI.wp
  · intro Xs a w hX hdep hC hI
    have e2 := hI.gi 2 rfl
    go_simp
    exact hI.put' (k := 12) (d := 21) (v := .pointer (some ⟨B, 0, none⟩)) (by decide) (by simp) (by simp) (by simp) hI.wp
  · intro Xs a w hX hdep hC hI
    have x12 : Xs 12 = true := hdep ⟨12, .data⟩ (by simp) rfl
    have e21 := hI.gk 12 rfl x12
    have cc0 := c0 w hI.wp
    go_simp
    exact hI.put' (k := 13) (d := 22) (v := .int .i64 X) (by decide) (by simp) (by simp) (by simp) hI.wp
  · intro Xs a w hX hdep hC hI
    have x11 : Xs 11 = true := hdep ⟨11, .data⟩ (by simp) rfl
    have x13 : Xs 13 = true := hdep ⟨13, .data⟩ (by simp) rfl
    have e20 := hI.gk 11 rfl x11
    have e22 := hI.gk 13 rfl x13
    have d1 : ¬ X = 0 := by omega
    have d0 : IntKind.i64.wrap ((i : Int) / X) = (i : Int) / X := wrap_in (by omega) (by omega)
    go_simp
    exact hI.put' (k := 14) (d := 23) (v := .int .i64 ((i : Int) / X)) (by decide) (by simp) (by simp) (by simp) hI.wp
  · intro Xs a w hX hdep hC hI
    have e2 := hI.gi 2 rfl
    go_simp
    exact hI.put' (k := 15) (d := 24) (v := .pointer (some ⟨B, 2, none⟩)) (by decide) (by simp) (by simp) (by simp) hI.wp
  · intro Xs a w hX hdep hC hI
    have x15 : Xs 15 = true := hdep ⟨15, .data⟩ (by simp) rfl
    have e24 := hI.gk 15 rfl x15
    have cc0 := c2 w hI.wp
    go_simp
    exact hI.put' (k := 16) (d := 25) (v := .int .i64 Z) (by decide) (by simp) (by simp) (by simp) hI.wp
  · intro Xs a w hX hdep hC hI
    have x14 : Xs 14 = true := hdep ⟨14, .data⟩ (by simp) rfl
    have x16 : Xs 16 = true := hdep ⟨16, .data⟩ (by simp) rfl
    have e23 := hI.gk 14 rfl x14
    have e25 := hI.gk 16 rfl x16
    have d1 : ¬ Z = 0 := by omega
    have d0 : Int.tdiv ((i : Int) / X) (Z : Int) = (i : Int) / X / Z := Int.tdiv_eq_ediv_of_nonneg q0
    have d2 : IntKind.i64.wrap ((i : Int) / X / Z) = (i : Int) / X / Z := wrap_in (by omega) (by omega)
    go_simp
    exact hI.put' (k := 17) (d := 26) (v := .int .i64 ((i : Int) / X / Z)) (by decide) (by simp) (by simp) (by simp) hI.wp
  · intro Xs a w hX hdep hC hI
    have x3 : Xs 3 = true := hdep ⟨3, .data⟩ (by simp) rfl
    have e12 := hI.gk 3 rfl x3
    go_simp
    exact hI.put' (k := 18) (d := 5) (v := .int .i64 ((i : Int) % X)) (by decide) (by simp) (by simp) (by simp) hI.wp
  · intro Xs a w hX hdep hC hI
    have x10 : Xs 10 = true := hdep ⟨10, .data⟩ (by simp) rfl
    have e19 := hI.gk 10 rfl x10
    go_simp
    exact hI.put' (k := 19) (d := 6) (v := .int .i64 ((i : Int) / X % Z)) (by decide) (by simp) (by simp) (by simp) hI.wp
  · intro Xs a w hX hdep hC hI
    have x17 : Xs 17 = true := hdep ⟨17, .data⟩ (by simp) rfl
    have e26 := hI.gk 17 rfl x17
    go_simp
    exact hI.put' (k := 20) (d := 7) (v := .int .i64 ((i : Int) / X / Z)) (by decide) (by simp) (by simp) (by simp) hI.wp
  · intro Xs a w hX hI
    refine hQ a w ⟨hI.size, hI.defers, ?_, hI.wp⟩
    simp only [List.mem_cons, List.not_mem_nil, or_false, forall_eq_or_imp, forall_eq]
    exact ⟨hI.inp (1, .int .i64 i) (by simp), hI.inp (2, .pointer (some ⟨B, 0, none⟩)) (by simp), hI.kn (18, 5, .int .i64 ((i : Int) % X)) (by simp) (hX 18 (by simp)), hI.kn (19, 6, .int .i64 ((i : Int) / X % Z)) (by simp) (hX 19 (by simp)), hI.kn (20, 7, .int .i64 ((i : Int) / X / Z)) (by simp) (hX 20 (by simp))⟩
set_option maxRecDepth 100000 in
set_option maxHeartbeats 4000000 in
theorem s2 (n : Nat) (W : World) (B i x z y : Nat) (Q : Exit → Act → World → Prop) (a : Act) (h0 : SR [(1, .int .i64 i), (2, .pointer (some ⟨B, 0, none⟩)), (5, .int .i64 x), (6, .int .i64 z), (7, .int .i64 y)] 93 [] W a W)
    (hQ : ∀ a, SR [(1, .int .i64 i), (2, .pointer (some ⟨B, 0, none⟩)), (5, .int .i64 x), (6, .int .i64 z), (7, .int .i64 y), (8, .slice none 0 0)] 93 [] (W) a (W) → Q .normal a (W)) : (regOf 2 C19).wpIn Fence.wide n Try.prog Q a W := by
  simp only [regOf, C19, Try.f19, Option.getD, Nat.reduceBEq, Bool.false_eq_true, if_true, if_false]
  refine region_sq (fun k_ a w => match k_ with | 0 => SR [(1, .int .i64 i), (2, .pointer (some ⟨B, 0, none⟩)), (5, .int .i64 x), (6, .int .i64 z), (7, .int .i64 y)] 93 [] (W) a w | _ => SR [(1, .int .i64 i), (2, .pointer (some ⟨B, 0, none⟩)), (5, .int .i64 x), (6, .int .i64 z), (7, .int .i64 y), (8, .slice none 0 0)] 93 [] (W) a w) (show SR [(1, .int .i64 i), (2, .pointer (some ⟨B, 0, none⟩)), (5, .int .i64 x), (6, .int .i64 z), (7, .int .i64 y)] 93 [] W a W from h0) ⟨?_, trivial⟩ ?_
  · intro a w hI
    have hI : SR _ _ _ _ a w := hI
    have hw : w = W := hI.wp
    subst hw
    go_simp
    exact hI.put (d := 8) (by decide) (by simp)
  · intro a w hI
    have hI : SR _ _ _ _ a w := hI
    have hw : w = W := hI.wp
    subst hw
    exact hQ a hI
set_option maxRecDepth 100000 in
set_option maxHeartbeats 4000000 in
theorem s3 (n : Nat) (W : World) (B i x z y : Nat) (q : Value)  (Q : Exit → Act → World → Prop) (a : Act) (h0 : SR [(1, .int .i64 i), (2, .pointer (some ⟨B, 0, none⟩)), (5, .int .i64 x), (6, .int .i64 z), (7, .int .i64 y), (8, q)] 93 [] W a W)
    (hQ : ∀ a, SR [(1, .int .i64 i), (2, .pointer (some ⟨B, 0, none⟩)), (5, .int .i64 x), (6, .int .i64 z), (7, .int .i64 y), (8, q), (28, .bool (decide (0 < x)))] 93 [] (W) a (W) → Q .normal a (W)) : (regOf 3 C19).wpIn Fence.wide n Try.prog Q a W := by
  simp only [regOf, C19, Try.f19, Option.getD, Nat.reduceBEq, Bool.false_eq_true, if_true, if_false]
  refine region_sq (fun k_ a w => match k_ with | 0 => SR [(1, .int .i64 i), (2, .pointer (some ⟨B, 0, none⟩)), (5, .int .i64 x), (6, .int .i64 z), (7, .int .i64 y), (8, q)] 93 [] (W) a w | 1 => SR [(1, .int .i64 i), (2, .pointer (some ⟨B, 0, none⟩)), (5, .int .i64 x), (6, .int .i64 z), (7, .int .i64 y), (8, q), (27, .int .i64 x)] 93 [] (W) a w | _ => SR [(1, .int .i64 i), (2, .pointer (some ⟨B, 0, none⟩)), (5, .int .i64 x), (6, .int .i64 z), (7, .int .i64 y), (8, q), (28, .bool (decide (0 < x)))] 93 [] (W) a w) (show SR [(1, .int .i64 i), (2, .pointer (some ⟨B, 0, none⟩)), (5, .int .i64 x), (6, .int .i64 z), (7, .int .i64 y), (8, q)] 93 [] W a W from h0) ⟨?_, ?_, trivial⟩ ?_
  · intro a w hI
    have hI : SR _ _ _ _ a w := hI
    have e5 := hI.g 5 rfl
    have hw : w = W := hI.wp
    subst hw
    go_simp
    exact hI.put (d := 27) (by decide) (by simp)
  · intro a w hI
    have hI : SR _ _ _ _ a w := hI
    have e27 := hI.g 27 rfl
    have hw : w = W := hI.wp
    subst hw
    go_simp
    exact hI.put (d := 28) (by decide) (by simp)
  · intro a w hI
    have hI : SR _ _ _ _ a w := hI
    have hw : w = W := hI.wp
    subst hw
    exact hQ a hI
set_option maxRecDepth 100000 in
set_option maxHeartbeats 4000000 in
theorem s5 (n : Nat) (W : World) (B i x z y : Nat) (q : Value) (X : Nat) (h : x < 9000000000) (c0 : W.cell? ⟨B, 0, none⟩ = some (.int .i64 X)) (Q : Exit → Act → World → Prop) (a : Act) (h0 : SR [(1, .int .i64 i), (2, .pointer (some ⟨B, 0, none⟩)), (5, .int .i64 x), (6, .int .i64 z), (7, .int .i64 y), (8, q)] 93 [] W a W)
    (hQ : ∀ a, SR [(1, .int .i64 i), (2, .pointer (some ⟨B, 0, none⟩)), (5, .int .i64 x), (6, .int .i64 z), (7, .int .i64 y), (8, q), (38, .bool (decide ((x : Int) + 1 < X)))] 93 [] (W) a (W) → Q .normal a (W)) : (regOf 5 C19).wpIn Fence.wide n Try.prog Q a W := by
  simp only [regOf, C19, Try.f19, Option.getD, Nat.reduceBEq, Bool.false_eq_true, if_true, if_false]
  refine region_sq (fun k_ a w => match k_ with | 0 => SR [(1, .int .i64 i), (2, .pointer (some ⟨B, 0, none⟩)), (5, .int .i64 x), (6, .int .i64 z), (7, .int .i64 y), (8, q)] 93 [] (W) a w | 1 => SR [(1, .int .i64 i), (2, .pointer (some ⟨B, 0, none⟩)), (5, .int .i64 x), (6, .int .i64 z), (7, .int .i64 y), (8, q), (34, .int .i64 x)] 93 [] (W) a w | 2 => SR [(1, .int .i64 i), (2, .pointer (some ⟨B, 0, none⟩)), (5, .int .i64 x), (6, .int .i64 z), (7, .int .i64 y), (8, q), (35, .int .i64 ((x : Int) + 1))] 93 [] (W) a w | 3 => SR [(1, .int .i64 i), (2, .pointer (some ⟨B, 0, none⟩)), (5, .int .i64 x), (6, .int .i64 z), (7, .int .i64 y), (8, q), (35, .int .i64 ((x : Int) + 1)), (36, .pointer (some ⟨B, 0, none⟩))] 93 [] (W) a w | 4 => SR [(1, .int .i64 i), (2, .pointer (some ⟨B, 0, none⟩)), (5, .int .i64 x), (6, .int .i64 z), (7, .int .i64 y), (8, q), (35, .int .i64 ((x : Int) + 1)), (37, .int .i64 X)] 93 [] (W) a w | _ => SR [(1, .int .i64 i), (2, .pointer (some ⟨B, 0, none⟩)), (5, .int .i64 x), (6, .int .i64 z), (7, .int .i64 y), (8, q), (38, .bool (decide ((x : Int) + 1 < X)))] 93 [] (W) a w) (show SR [(1, .int .i64 i), (2, .pointer (some ⟨B, 0, none⟩)), (5, .int .i64 x), (6, .int .i64 z), (7, .int .i64 y), (8, q)] 93 [] W a W from h0) ⟨?_, ?_, ?_, ?_, ?_, trivial⟩ ?_
  · intro a w hI
    have hI : SR _ _ _ _ a w := hI
    have e5 := hI.g 5 rfl
    have hw : w = W := hI.wp
    subst hw
    go_simp
    exact hI.put (d := 34) (by decide) (by simp)
  · intro a w hI
    have hI : SR _ _ _ _ a w := hI
    have e34 := hI.g 34 rfl
    have hw : w = W := hI.wp
    subst hw
    have hw1 : IntKind.i64.wrap ((x : Int) + 1) = (x : Int) + 1 := IntWalk.i64_in _ (by omega)
    go_simp
    exact hI.put (d := 35) (by decide) (by simp)
  · intro a w hI
    have hI : SR _ _ _ _ a w := hI
    have e2 := hI.g 2 rfl
    have hw : w = W := hI.wp
    subst hw
    go_simp
    exact hI.put (d := 36) (by decide) (by simp)
  · intro a w hI
    have hI : SR _ _ _ _ a w := hI
    have e36 := hI.g 36 rfl
    have hw : w = W := hI.wp
    subst hw
    go_simp
    exact hI.put (d := 37) (by decide) (by simp)
  · intro a w hI
    have hI : SR _ _ _ _ a w := hI
    have e35 := hI.g 35 rfl
    have e37 := hI.g 37 rfl
    have hw : w = W := hI.wp
    subst hw
    go_simp
    exact hI.put (d := 38) (by decide) (by simp)
  · intro a w hI
    have hI : SR _ _ _ _ a w := hI
    have hw : w = W := hI.wp
    subst hw
    exact hQ a hI
set_option maxRecDepth 100000 in
set_option maxHeartbeats 4000000 in
theorem s7 (n : Nat) (W : World) (B i x z y : Nat) (q : Value)  (Q : Exit → Act → World → Prop) (a : Act) (h0 : SR [(1, .int .i64 i), (2, .pointer (some ⟨B, 0, none⟩)), (5, .int .i64 x), (6, .int .i64 z), (7, .int .i64 y), (8, q)] 93 [] W a W)
    (hQ : ∀ a, SR [(1, .int .i64 i), (2, .pointer (some ⟨B, 0, none⟩)), (5, .int .i64 x), (6, .int .i64 z), (7, .int .i64 y), (8, q), (45, .bool (decide (0 < z)))] 93 [] (W) a (W) → Q .normal a (W)) : (regOf 7 C19).wpIn Fence.wide n Try.prog Q a W := by
  simp only [regOf, C19, Try.f19, Option.getD, Nat.reduceBEq, Bool.false_eq_true, if_true, if_false]
  refine region_sq (fun k_ a w => match k_ with | 0 => SR [(1, .int .i64 i), (2, .pointer (some ⟨B, 0, none⟩)), (5, .int .i64 x), (6, .int .i64 z), (7, .int .i64 y), (8, q)] 93 [] (W) a w | 1 => SR [(1, .int .i64 i), (2, .pointer (some ⟨B, 0, none⟩)), (5, .int .i64 x), (6, .int .i64 z), (7, .int .i64 y), (8, q), (44, .int .i64 z)] 93 [] (W) a w | _ => SR [(1, .int .i64 i), (2, .pointer (some ⟨B, 0, none⟩)), (5, .int .i64 x), (6, .int .i64 z), (7, .int .i64 y), (8, q), (45, .bool (decide (0 < z)))] 93 [] (W) a w) (show SR [(1, .int .i64 i), (2, .pointer (some ⟨B, 0, none⟩)), (5, .int .i64 x), (6, .int .i64 z), (7, .int .i64 y), (8, q)] 93 [] W a W from h0) ⟨?_, ?_, trivial⟩ ?_
  · intro a w hI
    have hI : SR _ _ _ _ a w := hI
    have e6 := hI.g 6 rfl
    have hw : w = W := hI.wp
    subst hw
    go_simp
    exact hI.put (d := 44) (by decide) (by simp)
  · intro a w hI
    have hI : SR _ _ _ _ a w := hI
    have e44 := hI.g 44 rfl
    have hw : w = W := hI.wp
    subst hw
    go_simp
    exact hI.put (d := 45) (by decide) (by simp)
  · intro a w hI
    have hI : SR _ _ _ _ a w := hI
    have hw : w = W := hI.wp
    subst hw
    exact hQ a hI
set_option maxRecDepth 100000 in
set_option maxHeartbeats 4000000 in
theorem s9 (n : Nat) (W : World) (B i x z y : Nat) (q : Value) (Z : Nat) (h : z < 9000000000) (c2 : W.cell? ⟨B, 2, none⟩ = some (.int .i64 Z)) (Q : Exit → Act → World → Prop) (a : Act) (h0 : SR [(1, .int .i64 i), (2, .pointer (some ⟨B, 0, none⟩)), (5, .int .i64 x), (6, .int .i64 z), (7, .int .i64 y), (8, q)] 93 [] W a W)
    (hQ : ∀ a, SR [(1, .int .i64 i), (2, .pointer (some ⟨B, 0, none⟩)), (5, .int .i64 x), (6, .int .i64 z), (7, .int .i64 y), (8, q), (57, .bool (decide ((z : Int) + 1 < Z)))] 93 [] (W) a (W) → Q .normal a (W)) : (regOf 9 C19).wpIn Fence.wide n Try.prog Q a W := by
  simp only [regOf, C19, Try.f19, Option.getD, Nat.reduceBEq, Bool.false_eq_true, if_true, if_false]
  refine region_sq (fun k_ a w => match k_ with | 0 => SR [(1, .int .i64 i), (2, .pointer (some ⟨B, 0, none⟩)), (5, .int .i64 x), (6, .int .i64 z), (7, .int .i64 y), (8, q)] 93 [] (W) a w | 1 => SR [(1, .int .i64 i), (2, .pointer (some ⟨B, 0, none⟩)), (5, .int .i64 x), (6, .int .i64 z), (7, .int .i64 y), (8, q), (53, .int .i64 z)] 93 [] (W) a w | 2 => SR [(1, .int .i64 i), (2, .pointer (some ⟨B, 0, none⟩)), (5, .int .i64 x), (6, .int .i64 z), (7, .int .i64 y), (8, q), (54, .int .i64 ((z : Int) + 1))] 93 [] (W) a w | 3 => SR [(1, .int .i64 i), (2, .pointer (some ⟨B, 0, none⟩)), (5, .int .i64 x), (6, .int .i64 z), (7, .int .i64 y), (8, q), (54, .int .i64 ((z : Int) + 1)), (55, .pointer (some ⟨B, 2, none⟩))] 93 [] (W) a w | 4 => SR [(1, .int .i64 i), (2, .pointer (some ⟨B, 0, none⟩)), (5, .int .i64 x), (6, .int .i64 z), (7, .int .i64 y), (8, q), (54, .int .i64 ((z : Int) + 1)), (56, .int .i64 Z)] 93 [] (W) a w | _ => SR [(1, .int .i64 i), (2, .pointer (some ⟨B, 0, none⟩)), (5, .int .i64 x), (6, .int .i64 z), (7, .int .i64 y), (8, q), (57, .bool (decide ((z : Int) + 1 < Z)))] 93 [] (W) a w) (show SR [(1, .int .i64 i), (2, .pointer (some ⟨B, 0, none⟩)), (5, .int .i64 x), (6, .int .i64 z), (7, .int .i64 y), (8, q)] 93 [] W a W from h0) ⟨?_, ?_, ?_, ?_, ?_, trivial⟩ ?_
  · intro a w hI
    have hI : SR _ _ _ _ a w := hI
    have e6 := hI.g 6 rfl
    have hw : w = W := hI.wp
    subst hw
    go_simp
    exact hI.put (d := 53) (by decide) (by simp)
  · intro a w hI
    have hI : SR _ _ _ _ a w := hI
    have e53 := hI.g 53 rfl
    have hw : w = W := hI.wp
    subst hw
    have hw1 : IntKind.i64.wrap ((z : Int) + 1) = (z : Int) + 1 := IntWalk.i64_in _ (by omega)
    go_simp
    exact hI.put (d := 54) (by decide) (by simp)
  · intro a w hI
    have hI : SR _ _ _ _ a w := hI
    have e2 := hI.g 2 rfl
    have hw : w = W := hI.wp
    subst hw
    go_simp
    exact hI.put (d := 55) (by decide) (by simp)
  · intro a w hI
    have hI : SR _ _ _ _ a w := hI
    have e55 := hI.g 55 rfl
    have hw : w = W := hI.wp
    subst hw
    go_simp
    exact hI.put (d := 56) (by decide) (by simp)
  · intro a w hI
    have hI : SR _ _ _ _ a w := hI
    have e54 := hI.g 54 rfl
    have e56 := hI.g 56 rfl
    have hw : w = W := hI.wp
    subst hw
    go_simp
    exact hI.put (d := 57) (by decide) (by simp)
  · intro a w hI
    have hI : SR _ _ _ _ a w := hI
    have hw : w = W := hI.wp
    subst hw
    exact hQ a hI
set_option maxRecDepth 100000 in
set_option maxHeartbeats 4000000 in
theorem s11 (n : Nat) (W : World) (B i x z y : Nat) (q : Value)  (Q : Exit → Act → World → Prop) (a : Act) (h0 : SR [(1, .int .i64 i), (2, .pointer (some ⟨B, 0, none⟩)), (5, .int .i64 x), (6, .int .i64 z), (7, .int .i64 y), (8, q)] 93 [] W a W)
    (hQ : ∀ a, SR [(1, .int .i64 i), (2, .pointer (some ⟨B, 0, none⟩)), (5, .int .i64 x), (6, .int .i64 z), (7, .int .i64 y), (8, q), (66, .bool (decide (0 < y)))] 93 [] (W) a (W) → Q .normal a (W)) : (regOf 11 C19).wpIn Fence.wide n Try.prog Q a W := by
  simp only [regOf, C19, Try.f19, Option.getD, Nat.reduceBEq, Bool.false_eq_true, if_true, if_false]
  refine region_sq (fun k_ a w => match k_ with | 0 => SR [(1, .int .i64 i), (2, .pointer (some ⟨B, 0, none⟩)), (5, .int .i64 x), (6, .int .i64 z), (7, .int .i64 y), (8, q)] 93 [] (W) a w | 1 => SR [(1, .int .i64 i), (2, .pointer (some ⟨B, 0, none⟩)), (5, .int .i64 x), (6, .int .i64 z), (7, .int .i64 y), (8, q), (65, .int .i64 y)] 93 [] (W) a w | _ => SR [(1, .int .i64 i), (2, .pointer (some ⟨B, 0, none⟩)), (5, .int .i64 x), (6, .int .i64 z), (7, .int .i64 y), (8, q), (66, .bool (decide (0 < y)))] 93 [] (W) a w) (show SR [(1, .int .i64 i), (2, .pointer (some ⟨B, 0, none⟩)), (5, .int .i64 x), (6, .int .i64 z), (7, .int .i64 y), (8, q)] 93 [] W a W from h0) ⟨?_, ?_, trivial⟩ ?_
  · intro a w hI
    have hI : SR _ _ _ _ a w := hI
    have e7 := hI.g 7 rfl
    have hw : w = W := hI.wp
    subst hw
    go_simp
    exact hI.put (d := 65) (by decide) (by simp)
  · intro a w hI
    have hI : SR _ _ _ _ a w := hI
    have e65 := hI.g 65 rfl
    have hw : w = W := hI.wp
    subst hw
    go_simp
    exact hI.put (d := 66) (by decide) (by simp)
  · intro a w hI
    have hI : SR _ _ _ _ a w := hI
    have hw : w = W := hI.wp
    subst hw
    exact hQ a hI
set_option maxRecDepth 100000 in
set_option maxHeartbeats 4000000 in
theorem s13 (n : Nat) (W : World) (B i x z y : Nat) (q : Value) (Y : Nat) (h : y < 9000000000) (c1 : W.cell? ⟨B, 1, none⟩ = some (.int .i64 Y)) (Q : Exit → Act → World → Prop) (a : Act) (h0 : SR [(1, .int .i64 i), (2, .pointer (some ⟨B, 0, none⟩)), (5, .int .i64 x), (6, .int .i64 z), (7, .int .i64 y), (8, q)] 93 [] W a W)
    (hQ : ∀ a, SR [(1, .int .i64 i), (2, .pointer (some ⟨B, 0, none⟩)), (5, .int .i64 x), (6, .int .i64 z), (7, .int .i64 y), (8, q), (81, .bool (decide ((y : Int) + 1 < Y)))] 93 [] (W) a (W) → Q .normal a (W)) : (regOf 13 C19).wpIn Fence.wide n Try.prog Q a W := by
  simp only [regOf, C19, Try.f19, Option.getD, Nat.reduceBEq, Bool.false_eq_true, if_true, if_false]
  refine region_sq (fun k_ a w => match k_ with | 0 => SR [(1, .int .i64 i), (2, .pointer (some ⟨B, 0, none⟩)), (5, .int .i64 x), (6, .int .i64 z), (7, .int .i64 y), (8, q)] 93 [] (W) a w | 1 => SR [(1, .int .i64 i), (2, .pointer (some ⟨B, 0, none⟩)), (5, .int .i64 x), (6, .int .i64 z), (7, .int .i64 y), (8, q), (77, .int .i64 y)] 93 [] (W) a w | 2 => SR [(1, .int .i64 i), (2, .pointer (some ⟨B, 0, none⟩)), (5, .int .i64 x), (6, .int .i64 z), (7, .int .i64 y), (8, q), (78, .int .i64 ((y : Int) + 1))] 93 [] (W) a w | 3 => SR [(1, .int .i64 i), (2, .pointer (some ⟨B, 0, none⟩)), (5, .int .i64 x), (6, .int .i64 z), (7, .int .i64 y), (8, q), (78, .int .i64 ((y : Int) + 1)), (79, .pointer (some ⟨B, 1, none⟩))] 93 [] (W) a w | 4 => SR [(1, .int .i64 i), (2, .pointer (some ⟨B, 0, none⟩)), (5, .int .i64 x), (6, .int .i64 z), (7, .int .i64 y), (8, q), (78, .int .i64 ((y : Int) + 1)), (80, .int .i64 Y)] 93 [] (W) a w | _ => SR [(1, .int .i64 i), (2, .pointer (some ⟨B, 0, none⟩)), (5, .int .i64 x), (6, .int .i64 z), (7, .int .i64 y), (8, q), (81, .bool (decide ((y : Int) + 1 < Y)))] 93 [] (W) a w) (show SR [(1, .int .i64 i), (2, .pointer (some ⟨B, 0, none⟩)), (5, .int .i64 x), (6, .int .i64 z), (7, .int .i64 y), (8, q)] 93 [] W a W from h0) ⟨?_, ?_, ?_, ?_, ?_, trivial⟩ ?_
  · intro a w hI
    have hI : SR _ _ _ _ a w := hI
    have e7 := hI.g 7 rfl
    have hw : w = W := hI.wp
    subst hw
    go_simp
    exact hI.put (d := 77) (by decide) (by simp)
  · intro a w hI
    have hI : SR _ _ _ _ a w := hI
    have e77 := hI.g 77 rfl
    have hw : w = W := hI.wp
    subst hw
    have hw1 : IntKind.i64.wrap ((y : Int) + 1) = (y : Int) + 1 := IntWalk.i64_in _ (by omega)
    go_simp
    exact hI.put (d := 78) (by decide) (by simp)
  · intro a w hI
    have hI : SR _ _ _ _ a w := hI
    have e2 := hI.g 2 rfl
    have hw : w = W := hI.wp
    subst hw
    go_simp
    exact hI.put (d := 79) (by decide) (by simp)
  · intro a w hI
    have hI : SR _ _ _ _ a w := hI
    have e79 := hI.g 79 rfl
    have hw : w = W := hI.wp
    subst hw
    go_simp
    exact hI.put (d := 80) (by decide) (by simp)
  · intro a w hI
    have hI : SR _ _ _ _ a w := hI
    have e78 := hI.g 78 rfl
    have e80 := hI.g 80 rfl
    have hw : w = W := hI.wp
    subst hw
    go_simp
    exact hI.put (d := 81) (by decide) (by simp)
  · intro a w hI
    have hI : SR _ _ _ _ a w := hI
    have hw : w = W := hI.wp
    subst hw
    exact hQ a hI
set_option maxRecDepth 100000 in
set_option maxHeartbeats 4000000 in
theorem s15 (n : Nat) (W : World) (q : Value) (Q : Exit → Act → World → Prop) (a : Act) (h0 : SR [(8, q)] 93 [] W a W)
    (hQ : ∀ a, SR [(4, q)] 93 [] (W) a (W) → Q .normal a (W)) : (regOf 15 C19).wpIn Fence.wide n Try.prog Q a W := by
  simp only [regOf, C19, Try.f19, Option.getD, Nat.reduceBEq, Bool.false_eq_true, if_true, if_false]
  refine region_sq (fun k_ a w => match k_ with | 0 => SR [(8, q)] 93 [] (W) a w | 1 => SR [(92, q)] 93 [] (W) a w | _ => SR [(4, q)] 93 [] (W) a w) (show SR [(8, q)] 93 [] W a W from h0) ⟨?_, ?_, trivial⟩ ?_
  · intro a w hI
    have hI : SR _ _ _ _ a w := hI
    have e8 := hI.g 8 rfl
    have hw : w = W := hI.wp
    subst hw
    go_simp
    exact hI.put (d := 92) (by decide) (by simp)
  · intro a w hI
    have hI : SR _ _ _ _ a w := hI
    have e92 := hI.g 92 rfl
    have hw : w = W := hI.wp
    subst hw
    go_simp
    exact hI.put (d := 4) (by decide) (by simp)
  · intro a w hI
    have hI : SR _ _ _ _ a w := hI
    have hw : w = W := hI.wp
    subst hw
    exact hQ a hI
set_option maxRecDepth 100000 in
set_option maxHeartbeats 4000000 in
theorem s4 (n : Nat) {W0 : World} {B X Y Z : Nat} {cv q : Value} {l : List Nat} (hl : l.length < 17592186044415) (i x z y s : Nat) (hs : IntKind.i64.wrap ((i : Int) - 1) = (s : Int)) (Q : Exit → Act → World → Prop) (a : Act) (w : World) (h0 : SG [(1, .int .i64 i), (2, .pointer (some ⟨B, 0, none⟩)), (5, .int .i64 x), (6, .int .i64 z), (7, .int .i64 y), (8, q)] 93 (G19 W0 B X Y Z cv q l) a w)
    (hQ : ∀ q' a w, SG [(1, .int .i64 i), (2, .pointer (some ⟨B, 0, none⟩)), (5, .int .i64 x), (6, .int .i64 z), (7, .int .i64 y), (8, q')] 93 (G19 W0 B X Y Z cv q' (l ++ [s])) a w → Q .normal a w) : (regOf 4 C19).wpIn Fence.wide n Try.prog Q a w := by
  obtain ⟨i0, hi, hz0, hz1, hz2⟩ := info_parts info3
  simp only [regOf, C19, Try.f19, Option.getD, Nat.reduceBEq, Bool.false_eq_true, if_true, if_false]
  refine region_sq (fun k_ a w => match k_ with | 0 => SG [(1, .int .i64 i), (2, .pointer (some ⟨B, 0, none⟩)), (5, .int .i64 x), (6, .int .i64 z), (7, .int .i64 y), (8, q)] 93 (G19 W0 B X Y Z cv q l) a w | 1 => SG [(1, .int .i64 i), (2, .pointer (some ⟨B, 0, none⟩)), (5, .int .i64 x), (6, .int .i64 z), (7, .int .i64 y), (29, q)] 93 (G19 W0 B X Y Z cv q l) a w | 2 => SG [(1, .int .i64 i), (2, .pointer (some ⟨B, 0, none⟩)), (5, .int .i64 x), (6, .int .i64 z), (7, .int .i64 y), (29, q), (30, .int .i64 i)] 93 (G19 W0 B X Y Z cv q l) a w | 3 => SG [(1, .int .i64 i), (2, .pointer (some ⟨B, 0, none⟩)), (5, .int .i64 x), (6, .int .i64 z), (7, .int .i64 y), (29, q), (31, .int .i64 s)] 93 (G19 W0 B X Y Z cv q l) a w | 4 => ∃ tb, SG [(1, .int .i64 i), (2, .pointer (some ⟨B, 0, none⟩)), (5, .int .i64 x), (6, .int .i64 z), (7, .int .i64 y), (29, q), (32, .slice (some ⟨tb, 0, none⟩) 1 1)] 93 (fun w => G19 W0 B X Y Z cv q l w ∧ w.cell? ⟨tb, 0, none⟩ = some (.int .i64 s)) a w | 5 => ∃ q', SG [(1, .int .i64 i), (2, .pointer (some ⟨B, 0, none⟩)), (5, .int .i64 x), (6, .int .i64 z), (7, .int .i64 y), (33, q')] 93 (G19 W0 B X Y Z cv q' (l ++ [s])) a w | _ => ∃ q', SG [(1, .int .i64 i), (2, .pointer (some ⟨B, 0, none⟩)), (5, .int .i64 x), (6, .int .i64 z), (7, .int .i64 y), (8, q')] 93 (G19 W0 B X Y Z cv q' (l ++ [s])) a w) (show SG [(1, .int .i64 i), (2, .pointer (some ⟨B, 0, none⟩)), (5, .int .i64 x), (6, .int .i64 z), (7, .int .i64 y), (8, q)] 93 (G19 W0 B X Y Z cv q l) a w from h0) ⟨?_, ?_, ?_, ?_, ?_, ?_, trivial⟩ ?_
  · intro a w hI
    have hI : SG [(1, .int .i64 i), (2, .pointer (some ⟨B, 0, none⟩)), (5, .int .i64 x), (6, .int .i64 z), (7, .int .i64 y), (8, q)] 93 (G19 W0 B X Y Z cv q l) a w := hI
    have e8 := hI.g 8 rfl
    go_simp
    exact hI.put (d := 29) (by decide) (by simp) hI.wp
  · intro a w hI
    have hI : SG [(1, .int .i64 i), (2, .pointer (some ⟨B, 0, none⟩)), (5, .int .i64 x), (6, .int .i64 z), (7, .int .i64 y), (29, q)] 93 (G19 W0 B X Y Z cv q l) a w := hI
    have e1 := hI.g 1 rfl
    go_simp
    exact hI.put (d := 30) (by decide) (by simp) hI.wp
  · intro a w hI
    have hI : SG [(1, .int .i64 i), (2, .pointer (some ⟨B, 0, none⟩)), (5, .int .i64 x), (6, .int .i64 z), (7, .int .i64 y), (29, q), (30, .int .i64 i)] 93 (G19 W0 B X Y Z cv q l) a w := hI
    have e30 := hI.g 30 rfl
    go_simp
    exact hI.put (d := 31) (by decide) (by simp) hI.wp
  · intro a w hI
    have hI : SG [(1, .int .i64 i), (2, .pointer (some ⟨B, 0, none⟩)), (5, .int .i64 x), (6, .int .i64 z), (7, .int .i64 y), (29, q), (31, .int .i64 s)] 93 (G19 W0 B X Y Z cv q l) a w := hI
    have e31 := hI.g 31 rfl
    go_simp
    refine ⟨w.heap.size, hI.put (d := 32) (by decide) (by simp) ⟨hI.wp.below ((Below.refl _ _).alloc (Nat.le_refl _) _), by unfold World.cell?; rw [World.alloc_heap_new]; rfl⟩⟩
  · rintro a w ⟨tb, hI⟩
    have hI : SG [(1, .int .i64 i), (2, .pointer (some ⟨B, 0, none⟩)), (5, .int .i64 x), (6, .int .i64 z), (7, .int .i64 y), (29, q), (32, .slice (some ⟨tb, 0, none⟩) 1 1)] 93 (fun w => G19 W0 B X Y Z cv q l w ∧ w.cell? ⟨tb, 0, none⟩ = some (.int .i64 s)) a w := hI
    have e29 := hI.g 29 rfl
    have e32 := hI.g 32 rfl
    have htm := hI.wp.2
    rw [if_pos (by simp [Region.wanted])]
    refine operIn_append (.tmp 29) (.tmp 32) 40 rfl (B + 1) 3 i0 (.int .i64 0) 1 8 under40 hi hz0 hz1 hz2 rfl (by decide) q l.length (intsV l) (by simpa [go_sem] using e29) hI.wp.1.own ⟨tb, 0, none⟩ 1 1 [.int .i64 s] (by simpa [go_sem] using e32) rfl (fun j u hj => by
        match j, hj with
        | 0, hj => simp at hj; subst hj; exact htm
        | j + 1, hj => simp at hj) (by simp [Value.oneCell']) (by unfold maxLen; omega) (by omega) hI.wp.1.lt ?_
    intro V2 w1 h1 h2 h3
    exact ⟨V2, hI.put (d := 33) (by decide) (by simp) (hI.wp.1.grown h1 h2)⟩
  · rintro a w ⟨q', hI⟩
    have hI : SG [(1, .int .i64 i), (2, .pointer (some ⟨B, 0, none⟩)), (5, .int .i64 x), (6, .int .i64 z), (7, .int .i64 y), (33, q')] 93 (G19 W0 B X Y Z cv q' (l ++ [s])) a w := hI
    have e33 := hI.g 33 rfl
    go_simp
    exact ⟨q', hI.put (d := 8) (by decide) (by simp) hI.wp⟩
  · rintro a w ⟨q', hI⟩
    have hI : SG [(1, .int .i64 i), (2, .pointer (some ⟨B, 0, none⟩)), (5, .int .i64 x), (6, .int .i64 z), (7, .int .i64 y), (8, q')] 93 (G19 W0 B X Y Z cv q' (l ++ [s])) a w := hI
    exact hQ q' a w hI
set_option maxRecDepth 100000 in
set_option maxHeartbeats 4000000 in
theorem s6 (n : Nat) {W0 : World} {B X Y Z : Nat} {cv q : Value} {l : List Nat} (hl : l.length < 17592186044415) (i x z y s : Nat) (hs : IntKind.i64.wrap ((i : Int) + 1) = (s : Int)) (Q : Exit → Act → World → Prop) (a : Act) (w : World) (h0 : SG [(1, .int .i64 i), (2, .pointer (some ⟨B, 0, none⟩)), (5, .int .i64 x), (6, .int .i64 z), (7, .int .i64 y), (8, q)] 93 (G19 W0 B X Y Z cv q l) a w)
    (hQ : ∀ q' a w, SG [(1, .int .i64 i), (2, .pointer (some ⟨B, 0, none⟩)), (5, .int .i64 x), (6, .int .i64 z), (7, .int .i64 y), (8, q')] 93 (G19 W0 B X Y Z cv q' (l ++ [s])) a w → Q .normal a w) : (regOf 6 C19).wpIn Fence.wide n Try.prog Q a w := by
  obtain ⟨i0, hi, hz0, hz1, hz2⟩ := info_parts info3
  simp only [regOf, C19, Try.f19, Option.getD, Nat.reduceBEq, Bool.false_eq_true, if_true, if_false]
  refine region_sq (fun k_ a w => match k_ with | 0 => SG [(1, .int .i64 i), (2, .pointer (some ⟨B, 0, none⟩)), (5, .int .i64 x), (6, .int .i64 z), (7, .int .i64 y), (8, q)] 93 (G19 W0 B X Y Z cv q l) a w | 1 => SG [(1, .int .i64 i), (2, .pointer (some ⟨B, 0, none⟩)), (5, .int .i64 x), (6, .int .i64 z), (7, .int .i64 y), (39, q)] 93 (G19 W0 B X Y Z cv q l) a w | 2 => SG [(1, .int .i64 i), (2, .pointer (some ⟨B, 0, none⟩)), (5, .int .i64 x), (6, .int .i64 z), (7, .int .i64 y), (39, q), (40, .int .i64 i)] 93 (G19 W0 B X Y Z cv q l) a w | 3 => SG [(1, .int .i64 i), (2, .pointer (some ⟨B, 0, none⟩)), (5, .int .i64 x), (6, .int .i64 z), (7, .int .i64 y), (39, q), (41, .int .i64 s)] 93 (G19 W0 B X Y Z cv q l) a w | 4 => ∃ tb, SG [(1, .int .i64 i), (2, .pointer (some ⟨B, 0, none⟩)), (5, .int .i64 x), (6, .int .i64 z), (7, .int .i64 y), (39, q), (42, .slice (some ⟨tb, 0, none⟩) 1 1)] 93 (fun w => G19 W0 B X Y Z cv q l w ∧ w.cell? ⟨tb, 0, none⟩ = some (.int .i64 s)) a w | 5 => ∃ q', SG [(1, .int .i64 i), (2, .pointer (some ⟨B, 0, none⟩)), (5, .int .i64 x), (6, .int .i64 z), (7, .int .i64 y), (43, q')] 93 (G19 W0 B X Y Z cv q' (l ++ [s])) a w | _ => ∃ q', SG [(1, .int .i64 i), (2, .pointer (some ⟨B, 0, none⟩)), (5, .int .i64 x), (6, .int .i64 z), (7, .int .i64 y), (8, q')] 93 (G19 W0 B X Y Z cv q' (l ++ [s])) a w) (show SG [(1, .int .i64 i), (2, .pointer (some ⟨B, 0, none⟩)), (5, .int .i64 x), (6, .int .i64 z), (7, .int .i64 y), (8, q)] 93 (G19 W0 B X Y Z cv q l) a w from h0) ⟨?_, ?_, ?_, ?_, ?_, ?_, trivial⟩ ?_
  · intro a w hI
    have hI : SG [(1, .int .i64 i), (2, .pointer (some ⟨B, 0, none⟩)), (5, .int .i64 x), (6, .int .i64 z), (7, .int .i64 y), (8, q)] 93 (G19 W0 B X Y Z cv q l) a w := hI
    have e8 := hI.g 8 rfl
    go_simp
    exact hI.put (d := 39) (by decide) (by simp) hI.wp
  · intro a w hI
    have hI : SG [(1, .int .i64 i), (2, .pointer (some ⟨B, 0, none⟩)), (5, .int .i64 x), (6, .int .i64 z), (7, .int .i64 y), (39, q)] 93 (G19 W0 B X Y Z cv q l) a w := hI
    have e1 := hI.g 1 rfl
    go_simp
    exact hI.put (d := 40) (by decide) (by simp) hI.wp
  · intro a w hI
    have hI : SG [(1, .int .i64 i), (2, .pointer (some ⟨B, 0, none⟩)), (5, .int .i64 x), (6, .int .i64 z), (7, .int .i64 y), (39, q), (40, .int .i64 i)] 93 (G19 W0 B X Y Z cv q l) a w := hI
    have e40 := hI.g 40 rfl
    go_simp
    exact hI.put (d := 41) (by decide) (by simp) hI.wp
  · intro a w hI
    have hI : SG [(1, .int .i64 i), (2, .pointer (some ⟨B, 0, none⟩)), (5, .int .i64 x), (6, .int .i64 z), (7, .int .i64 y), (39, q), (41, .int .i64 s)] 93 (G19 W0 B X Y Z cv q l) a w := hI
    have e41 := hI.g 41 rfl
    go_simp
    refine ⟨w.heap.size, hI.put (d := 42) (by decide) (by simp) ⟨hI.wp.below ((Below.refl _ _).alloc (Nat.le_refl _) _), by unfold World.cell?; rw [World.alloc_heap_new]; rfl⟩⟩
  · rintro a w ⟨tb, hI⟩
    have hI : SG [(1, .int .i64 i), (2, .pointer (some ⟨B, 0, none⟩)), (5, .int .i64 x), (6, .int .i64 z), (7, .int .i64 y), (39, q), (42, .slice (some ⟨tb, 0, none⟩) 1 1)] 93 (fun w => G19 W0 B X Y Z cv q l w ∧ w.cell? ⟨tb, 0, none⟩ = some (.int .i64 s)) a w := hI
    have e39 := hI.g 39 rfl
    have e42 := hI.g 42 rfl
    have htm := hI.wp.2
    rw [if_pos (by simp [Region.wanted])]
    refine operIn_append (.tmp 39) (.tmp 42) 40 rfl (B + 1) 3 i0 (.int .i64 0) 1 8 under40 hi hz0 hz1 hz2 rfl (by decide) q l.length (intsV l) (by simpa [go_sem] using e39) hI.wp.1.own ⟨tb, 0, none⟩ 1 1 [.int .i64 s] (by simpa [go_sem] using e42) rfl (fun j u hj => by
        match j, hj with
        | 0, hj => simp at hj; subst hj; exact htm
        | j + 1, hj => simp at hj) (by simp [Value.oneCell']) (by unfold maxLen; omega) (by omega) hI.wp.1.lt ?_
    intro V2 w1 h1 h2 h3
    exact ⟨V2, hI.put (d := 43) (by decide) (by simp) (hI.wp.1.grown h1 h2)⟩
  · rintro a w ⟨q', hI⟩
    have hI : SG [(1, .int .i64 i), (2, .pointer (some ⟨B, 0, none⟩)), (5, .int .i64 x), (6, .int .i64 z), (7, .int .i64 y), (43, q')] 93 (G19 W0 B X Y Z cv q' (l ++ [s])) a w := hI
    have e43 := hI.g 43 rfl
    go_simp
    exact ⟨q', hI.put (d := 8) (by decide) (by simp) hI.wp⟩
  · rintro a w ⟨q', hI⟩
    have hI : SG [(1, .int .i64 i), (2, .pointer (some ⟨B, 0, none⟩)), (5, .int .i64 x), (6, .int .i64 z), (7, .int .i64 y), (8, q')] 93 (G19 W0 B X Y Z cv q' (l ++ [s])) a w := hI
    exact hQ q' a w hI
set_option maxRecDepth 100000 in
set_option maxHeartbeats 4000000 in
theorem s8 (n : Nat) {W0 : World} {B X Y Z : Nat} {cv q : Value} {l : List Nat} (hl : l.length < 17592186044415) (i x z y s : Nat) (hs : IntKind.i64.wrap ((i : Int) - X) = (s : Int)) (Q : Exit → Act → World → Prop) (a : Act) (w : World) (h0 : SG [(1, .int .i64 i), (2, .pointer (some ⟨B, 0, none⟩)), (5, .int .i64 x), (6, .int .i64 z), (7, .int .i64 y), (8, q)] 93 (G19 W0 B X Y Z cv q l) a w)
    (hQ : ∀ q' a w, SG [(1, .int .i64 i), (2, .pointer (some ⟨B, 0, none⟩)), (5, .int .i64 x), (6, .int .i64 z), (7, .int .i64 y), (8, q')] 93 (G19 W0 B X Y Z cv q' (l ++ [s])) a w → Q .normal a w) : (regOf 8 C19).wpIn Fence.wide n Try.prog Q a w := by
  obtain ⟨i0, hi, hz0, hz1, hz2⟩ := info_parts info3
  simp only [regOf, C19, Try.f19, Option.getD, Nat.reduceBEq, Bool.false_eq_true, if_true, if_false]
  refine region_sq (fun k_ a w => match k_ with | 0 => SG [(1, .int .i64 i), (2, .pointer (some ⟨B, 0, none⟩)), (5, .int .i64 x), (6, .int .i64 z), (7, .int .i64 y), (8, q)] 93 (G19 W0 B X Y Z cv q l) a w | 1 => SG [(1, .int .i64 i), (2, .pointer (some ⟨B, 0, none⟩)), (5, .int .i64 x), (6, .int .i64 z), (7, .int .i64 y), (46, q)] 93 (G19 W0 B X Y Z cv q l) a w | 2 => SG [(1, .int .i64 i), (2, .pointer (some ⟨B, 0, none⟩)), (5, .int .i64 x), (6, .int .i64 z), (7, .int .i64 y), (46, q), (47, .int .i64 i)] 93 (G19 W0 B X Y Z cv q l) a w | 3 => SG [(1, .int .i64 i), (2, .pointer (some ⟨B, 0, none⟩)), (5, .int .i64 x), (6, .int .i64 z), (7, .int .i64 y), (46, q), (47, .int .i64 i), (48, .pointer (some ⟨B, 0, none⟩))] 93 (G19 W0 B X Y Z cv q l) a w | 4 => SG [(1, .int .i64 i), (2, .pointer (some ⟨B, 0, none⟩)), (5, .int .i64 x), (6, .int .i64 z), (7, .int .i64 y), (46, q), (47, .int .i64 i), (49, .int .i64 X)] 93 (G19 W0 B X Y Z cv q l) a w | 5 => SG [(1, .int .i64 i), (2, .pointer (some ⟨B, 0, none⟩)), (5, .int .i64 x), (6, .int .i64 z), (7, .int .i64 y), (46, q), (50, .int .i64 s)] 93 (G19 W0 B X Y Z cv q l) a w | 6 => ∃ tb, SG [(1, .int .i64 i), (2, .pointer (some ⟨B, 0, none⟩)), (5, .int .i64 x), (6, .int .i64 z), (7, .int .i64 y), (46, q), (51, .slice (some ⟨tb, 0, none⟩) 1 1)] 93 (fun w => G19 W0 B X Y Z cv q l w ∧ w.cell? ⟨tb, 0, none⟩ = some (.int .i64 s)) a w | 7 => ∃ q', SG [(1, .int .i64 i), (2, .pointer (some ⟨B, 0, none⟩)), (5, .int .i64 x), (6, .int .i64 z), (7, .int .i64 y), (52, q')] 93 (G19 W0 B X Y Z cv q' (l ++ [s])) a w | _ => ∃ q', SG [(1, .int .i64 i), (2, .pointer (some ⟨B, 0, none⟩)), (5, .int .i64 x), (6, .int .i64 z), (7, .int .i64 y), (8, q')] 93 (G19 W0 B X Y Z cv q' (l ++ [s])) a w) (show SG [(1, .int .i64 i), (2, .pointer (some ⟨B, 0, none⟩)), (5, .int .i64 x), (6, .int .i64 z), (7, .int .i64 y), (8, q)] 93 (G19 W0 B X Y Z cv q l) a w from h0) ⟨?_, ?_, ?_, ?_, ?_, ?_, ?_, ?_, trivial⟩ ?_
  · intro a w hI
    have hI : SG [(1, .int .i64 i), (2, .pointer (some ⟨B, 0, none⟩)), (5, .int .i64 x), (6, .int .i64 z), (7, .int .i64 y), (8, q)] 93 (G19 W0 B X Y Z cv q l) a w := hI
    have e8 := hI.g 8 rfl
    go_simp
    exact hI.put (d := 46) (by decide) (by simp) hI.wp
  · intro a w hI
    have hI : SG [(1, .int .i64 i), (2, .pointer (some ⟨B, 0, none⟩)), (5, .int .i64 x), (6, .int .i64 z), (7, .int .i64 y), (46, q)] 93 (G19 W0 B X Y Z cv q l) a w := hI
    have e1 := hI.g 1 rfl
    go_simp
    exact hI.put (d := 47) (by decide) (by simp) hI.wp
  · intro a w hI
    have hI : SG [(1, .int .i64 i), (2, .pointer (some ⟨B, 0, none⟩)), (5, .int .i64 x), (6, .int .i64 z), (7, .int .i64 y), (46, q), (47, .int .i64 i)] 93 (G19 W0 B X Y Z cv q l) a w := hI
    have e2 := hI.g 2 rfl
    go_simp
    exact hI.put (d := 48) (by decide) (by simp) hI.wp
  · intro a w hI
    have hI : SG [(1, .int .i64 i), (2, .pointer (some ⟨B, 0, none⟩)), (5, .int .i64 x), (6, .int .i64 z), (7, .int .i64 y), (46, q), (47, .int .i64 i), (48, .pointer (some ⟨B, 0, none⟩))] 93 (G19 W0 B X Y Z cv q l) a w := hI
    have e48 := hI.g 48 rfl
    have cc0 : w.cell? ⟨B, 0, none⟩ = _ := hI.wp.cell rfl
    go_simp
    exact hI.put (d := 49) (by decide) (by simp) hI.wp
  · intro a w hI
    have hI : SG [(1, .int .i64 i), (2, .pointer (some ⟨B, 0, none⟩)), (5, .int .i64 x), (6, .int .i64 z), (7, .int .i64 y), (46, q), (47, .int .i64 i), (49, .int .i64 X)] 93 (G19 W0 B X Y Z cv q l) a w := hI
    have e47 := hI.g 47 rfl
    have e49 := hI.g 49 rfl
    go_simp
    exact hI.put (d := 50) (by decide) (by simp) hI.wp
  · intro a w hI
    have hI : SG [(1, .int .i64 i), (2, .pointer (some ⟨B, 0, none⟩)), (5, .int .i64 x), (6, .int .i64 z), (7, .int .i64 y), (46, q), (50, .int .i64 s)] 93 (G19 W0 B X Y Z cv q l) a w := hI
    have e50 := hI.g 50 rfl
    go_simp
    refine ⟨w.heap.size, hI.put (d := 51) (by decide) (by simp) ⟨hI.wp.below ((Below.refl _ _).alloc (Nat.le_refl _) _), by unfold World.cell?; rw [World.alloc_heap_new]; rfl⟩⟩
  · rintro a w ⟨tb, hI⟩
    have hI : SG [(1, .int .i64 i), (2, .pointer (some ⟨B, 0, none⟩)), (5, .int .i64 x), (6, .int .i64 z), (7, .int .i64 y), (46, q), (51, .slice (some ⟨tb, 0, none⟩) 1 1)] 93 (fun w => G19 W0 B X Y Z cv q l w ∧ w.cell? ⟨tb, 0, none⟩ = some (.int .i64 s)) a w := hI
    have e46 := hI.g 46 rfl
    have e51 := hI.g 51 rfl
    have htm := hI.wp.2
    rw [if_pos (by simp [Region.wanted])]
    refine operIn_append (.tmp 46) (.tmp 51) 40 rfl (B + 1) 3 i0 (.int .i64 0) 1 8 under40 hi hz0 hz1 hz2 rfl (by decide) q l.length (intsV l) (by simpa [go_sem] using e46) hI.wp.1.own ⟨tb, 0, none⟩ 1 1 [.int .i64 s] (by simpa [go_sem] using e51) rfl (fun j u hj => by
        match j, hj with
        | 0, hj => simp at hj; subst hj; exact htm
        | j + 1, hj => simp at hj) (by simp [Value.oneCell']) (by unfold maxLen; omega) (by omega) hI.wp.1.lt ?_
    intro V2 w1 h1 h2 h3
    exact ⟨V2, hI.put (d := 52) (by decide) (by simp) (hI.wp.1.grown h1 h2)⟩
  · rintro a w ⟨q', hI⟩
    have hI : SG [(1, .int .i64 i), (2, .pointer (some ⟨B, 0, none⟩)), (5, .int .i64 x), (6, .int .i64 z), (7, .int .i64 y), (52, q')] 93 (G19 W0 B X Y Z cv q' (l ++ [s])) a w := hI
    have e52 := hI.g 52 rfl
    go_simp
    exact ⟨q', hI.put (d := 8) (by decide) (by simp) hI.wp⟩
  · rintro a w ⟨q', hI⟩
    have hI : SG [(1, .int .i64 i), (2, .pointer (some ⟨B, 0, none⟩)), (5, .int .i64 x), (6, .int .i64 z), (7, .int .i64 y), (8, q')] 93 (G19 W0 B X Y Z cv q' (l ++ [s])) a w := hI
    exact hQ q' a w hI
set_option maxRecDepth 100000 in
set_option maxHeartbeats 4000000 in
theorem s10 (n : Nat) {W0 : World} {B X Y Z : Nat} {cv q : Value} {l : List Nat} (hl : l.length < 17592186044415) (i x z y s : Nat) (hs : IntKind.i64.wrap ((i : Int) + X) = (s : Int)) (Q : Exit → Act → World → Prop) (a : Act) (w : World) (h0 : SG [(1, .int .i64 i), (2, .pointer (some ⟨B, 0, none⟩)), (5, .int .i64 x), (6, .int .i64 z), (7, .int .i64 y), (8, q)] 93 (G19 W0 B X Y Z cv q l) a w)
    (hQ : ∀ q' a w, SG [(1, .int .i64 i), (2, .pointer (some ⟨B, 0, none⟩)), (5, .int .i64 x), (6, .int .i64 z), (7, .int .i64 y), (8, q')] 93 (G19 W0 B X Y Z cv q' (l ++ [s])) a w → Q .normal a w) : (regOf 10 C19).wpIn Fence.wide n Try.prog Q a w := by
  obtain ⟨i0, hi, hz0, hz1, hz2⟩ := info_parts info3
  simp only [regOf, C19, Try.f19, Option.getD, Nat.reduceBEq, Bool.false_eq_true, if_true, if_false]
  refine region_sq (fun k_ a w => match k_ with | 0 => SG [(1, .int .i64 i), (2, .pointer (some ⟨B, 0, none⟩)), (5, .int .i64 x), (6, .int .i64 z), (7, .int .i64 y), (8, q)] 93 (G19 W0 B X Y Z cv q l) a w | 1 => SG [(1, .int .i64 i), (2, .pointer (some ⟨B, 0, none⟩)), (5, .int .i64 x), (6, .int .i64 z), (7, .int .i64 y), (58, q)] 93 (G19 W0 B X Y Z cv q l) a w | 2 => SG [(1, .int .i64 i), (2, .pointer (some ⟨B, 0, none⟩)), (5, .int .i64 x), (6, .int .i64 z), (7, .int .i64 y), (58, q), (59, .int .i64 i)] 93 (G19 W0 B X Y Z cv q l) a w | 3 => SG [(1, .int .i64 i), (2, .pointer (some ⟨B, 0, none⟩)), (5, .int .i64 x), (6, .int .i64 z), (7, .int .i64 y), (58, q), (59, .int .i64 i), (60, .pointer (some ⟨B, 0, none⟩))] 93 (G19 W0 B X Y Z cv q l) a w | 4 => SG [(1, .int .i64 i), (2, .pointer (some ⟨B, 0, none⟩)), (5, .int .i64 x), (6, .int .i64 z), (7, .int .i64 y), (58, q), (59, .int .i64 i), (61, .int .i64 X)] 93 (G19 W0 B X Y Z cv q l) a w | 5 => SG [(1, .int .i64 i), (2, .pointer (some ⟨B, 0, none⟩)), (5, .int .i64 x), (6, .int .i64 z), (7, .int .i64 y), (58, q), (62, .int .i64 s)] 93 (G19 W0 B X Y Z cv q l) a w | 6 => ∃ tb, SG [(1, .int .i64 i), (2, .pointer (some ⟨B, 0, none⟩)), (5, .int .i64 x), (6, .int .i64 z), (7, .int .i64 y), (58, q), (63, .slice (some ⟨tb, 0, none⟩) 1 1)] 93 (fun w => G19 W0 B X Y Z cv q l w ∧ w.cell? ⟨tb, 0, none⟩ = some (.int .i64 s)) a w | 7 => ∃ q', SG [(1, .int .i64 i), (2, .pointer (some ⟨B, 0, none⟩)), (5, .int .i64 x), (6, .int .i64 z), (7, .int .i64 y), (64, q')] 93 (G19 W0 B X Y Z cv q' (l ++ [s])) a w | _ => ∃ q', SG [(1, .int .i64 i), (2, .pointer (some ⟨B, 0, none⟩)), (5, .int .i64 x), (6, .int .i64 z), (7, .int .i64 y), (8, q')] 93 (G19 W0 B X Y Z cv q' (l ++ [s])) a w) (show SG [(1, .int .i64 i), (2, .pointer (some ⟨B, 0, none⟩)), (5, .int .i64 x), (6, .int .i64 z), (7, .int .i64 y), (8, q)] 93 (G19 W0 B X Y Z cv q l) a w from h0) ⟨?_, ?_, ?_, ?_, ?_, ?_, ?_, ?_, trivial⟩ ?_
  · intro a w hI
    have hI : SG [(1, .int .i64 i), (2, .pointer (some ⟨B, 0, none⟩)), (5, .int .i64 x), (6, .int .i64 z), (7, .int .i64 y), (8, q)] 93 (G19 W0 B X Y Z cv q l) a w := hI
    have e8 := hI.g 8 rfl
    go_simp
    exact hI.put (d := 58) (by decide) (by simp) hI.wp
  · intro a w hI
    have hI : SG [(1, .int .i64 i), (2, .pointer (some ⟨B, 0, none⟩)), (5, .int .i64 x), (6, .int .i64 z), (7, .int .i64 y), (58, q)] 93 (G19 W0 B X Y Z cv q l) a w := hI
    have e1 := hI.g 1 rfl
    go_simp
    exact hI.put (d := 59) (by decide) (by simp) hI.wp
  · intro a w hI
    have hI : SG [(1, .int .i64 i), (2, .pointer (some ⟨B, 0, none⟩)), (5, .int .i64 x), (6, .int .i64 z), (7, .int .i64 y), (58, q), (59, .int .i64 i)] 93 (G19 W0 B X Y Z cv q l) a w := hI
    have e2 := hI.g 2 rfl
    go_simp
    exact hI.put (d := 60) (by decide) (by simp) hI.wp
  · intro a w hI
    have hI : SG [(1, .int .i64 i), (2, .pointer (some ⟨B, 0, none⟩)), (5, .int .i64 x), (6, .int .i64 z), (7, .int .i64 y), (58, q), (59, .int .i64 i), (60, .pointer (some ⟨B, 0, none⟩))] 93 (G19 W0 B X Y Z cv q l) a w := hI
    have e60 := hI.g 60 rfl
    have cc0 : w.cell? ⟨B, 0, none⟩ = _ := hI.wp.cell rfl
    go_simp
    exact hI.put (d := 61) (by decide) (by simp) hI.wp
  · intro a w hI
    have hI : SG [(1, .int .i64 i), (2, .pointer (some ⟨B, 0, none⟩)), (5, .int .i64 x), (6, .int .i64 z), (7, .int .i64 y), (58, q), (59, .int .i64 i), (61, .int .i64 X)] 93 (G19 W0 B X Y Z cv q l) a w := hI
    have e59 := hI.g 59 rfl
    have e61 := hI.g 61 rfl
    go_simp
    exact hI.put (d := 62) (by decide) (by simp) hI.wp
  · intro a w hI
    have hI : SG [(1, .int .i64 i), (2, .pointer (some ⟨B, 0, none⟩)), (5, .int .i64 x), (6, .int .i64 z), (7, .int .i64 y), (58, q), (62, .int .i64 s)] 93 (G19 W0 B X Y Z cv q l) a w := hI
    have e62 := hI.g 62 rfl
    go_simp
    refine ⟨w.heap.size, hI.put (d := 63) (by decide) (by simp) ⟨hI.wp.below ((Below.refl _ _).alloc (Nat.le_refl _) _), by unfold World.cell?; rw [World.alloc_heap_new]; rfl⟩⟩
  · rintro a w ⟨tb, hI⟩
    have hI : SG [(1, .int .i64 i), (2, .pointer (some ⟨B, 0, none⟩)), (5, .int .i64 x), (6, .int .i64 z), (7, .int .i64 y), (58, q), (63, .slice (some ⟨tb, 0, none⟩) 1 1)] 93 (fun w => G19 W0 B X Y Z cv q l w ∧ w.cell? ⟨tb, 0, none⟩ = some (.int .i64 s)) a w := hI
    have e58 := hI.g 58 rfl
    have e63 := hI.g 63 rfl
    have htm := hI.wp.2
    rw [if_pos (by simp [Region.wanted])]
    refine operIn_append (.tmp 58) (.tmp 63) 40 rfl (B + 1) 3 i0 (.int .i64 0) 1 8 under40 hi hz0 hz1 hz2 rfl (by decide) q l.length (intsV l) (by simpa [go_sem] using e58) hI.wp.1.own ⟨tb, 0, none⟩ 1 1 [.int .i64 s] (by simpa [go_sem] using e63) rfl (fun j u hj => by
        match j, hj with
        | 0, hj => simp at hj; subst hj; exact htm
        | j + 1, hj => simp at hj) (by simp [Value.oneCell']) (by unfold maxLen; omega) (by omega) hI.wp.1.lt ?_
    intro V2 w1 h1 h2 h3
    exact ⟨V2, hI.put (d := 64) (by decide) (by simp) (hI.wp.1.grown h1 h2)⟩
  · rintro a w ⟨q', hI⟩
    have hI : SG [(1, .int .i64 i), (2, .pointer (some ⟨B, 0, none⟩)), (5, .int .i64 x), (6, .int .i64 z), (7, .int .i64 y), (64, q')] 93 (G19 W0 B X Y Z cv q' (l ++ [s])) a w := hI
    have e64 := hI.g 64 rfl
    go_simp
    exact ⟨q', hI.put (d := 8) (by decide) (by simp) hI.wp⟩
  · rintro a w ⟨q', hI⟩
    have hI : SG [(1, .int .i64 i), (2, .pointer (some ⟨B, 0, none⟩)), (5, .int .i64 x), (6, .int .i64 z), (7, .int .i64 y), (8, q')] 93 (G19 W0 B X Y Z cv q' (l ++ [s])) a w := hI
    exact hQ q' a w hI
set_option maxRecDepth 100000 in
set_option maxHeartbeats 4000000 in
theorem s12 (n : Nat) {W0 : World} {B X Y Z : Nat} {cv q : Value} {l : List Nat} (hl : l.length < 17592186044415) (i x z y s : Nat) (hm : IntKind.i64.wrap ((X : Int) * Z) = (X : Int) * Z) (hs : IntKind.i64.wrap ((i : Int) - X * Z) = (s : Int)) (Q : Exit → Act → World → Prop) (a : Act) (w : World) (h0 : SG [(1, .int .i64 i), (2, .pointer (some ⟨B, 0, none⟩)), (5, .int .i64 x), (6, .int .i64 z), (7, .int .i64 y), (8, q)] 93 (G19 W0 B X Y Z cv q l) a w)
    (hQ : ∀ q' a w, SG [(1, .int .i64 i), (2, .pointer (some ⟨B, 0, none⟩)), (5, .int .i64 x), (6, .int .i64 z), (7, .int .i64 y), (8, q')] 93 (G19 W0 B X Y Z cv q' (l ++ [s])) a w → Q .normal a w) : (regOf 12 C19).wpIn Fence.wide n Try.prog Q a w := by
  obtain ⟨i0, hi, hz0, hz1, hz2⟩ := info_parts info3
  simp only [regOf, C19, Try.f19, Option.getD, Nat.reduceBEq, Bool.false_eq_true, if_true, if_false]
  refine region_sq (fun k_ a w => match k_ with | 0 => SG [(1, .int .i64 i), (2, .pointer (some ⟨B, 0, none⟩)), (5, .int .i64 x), (6, .int .i64 z), (7, .int .i64 y), (8, q)] 93 (G19 W0 B X Y Z cv q l) a w | 1 => SG [(1, .int .i64 i), (2, .pointer (some ⟨B, 0, none⟩)), (5, .int .i64 x), (6, .int .i64 z), (7, .int .i64 y), (67, q)] 93 (G19 W0 B X Y Z cv q l) a w | 2 => SG [(1, .int .i64 i), (2, .pointer (some ⟨B, 0, none⟩)), (5, .int .i64 x), (6, .int .i64 z), (7, .int .i64 y), (67, q), (68, .int .i64 i)] 93 (G19 W0 B X Y Z cv q l) a w | 3 => SG [(1, .int .i64 i), (2, .pointer (some ⟨B, 0, none⟩)), (5, .int .i64 x), (6, .int .i64 z), (7, .int .i64 y), (67, q), (68, .int .i64 i), (69, .pointer (some ⟨B, 0, none⟩))] 93 (G19 W0 B X Y Z cv q l) a w | 4 => SG [(1, .int .i64 i), (2, .pointer (some ⟨B, 0, none⟩)), (5, .int .i64 x), (6, .int .i64 z), (7, .int .i64 y), (67, q), (68, .int .i64 i), (70, .int .i64 X)] 93 (G19 W0 B X Y Z cv q l) a w | 5 => SG [(1, .int .i64 i), (2, .pointer (some ⟨B, 0, none⟩)), (5, .int .i64 x), (6, .int .i64 z), (7, .int .i64 y), (67, q), (68, .int .i64 i), (70, .int .i64 X), (71, .pointer (some ⟨B, 2, none⟩))] 93 (G19 W0 B X Y Z cv q l) a w | 6 => SG [(1, .int .i64 i), (2, .pointer (some ⟨B, 0, none⟩)), (5, .int .i64 x), (6, .int .i64 z), (7, .int .i64 y), (67, q), (68, .int .i64 i), (70, .int .i64 X), (72, .int .i64 Z)] 93 (G19 W0 B X Y Z cv q l) a w | 7 => SG [(1, .int .i64 i), (2, .pointer (some ⟨B, 0, none⟩)), (5, .int .i64 x), (6, .int .i64 z), (7, .int .i64 y), (67, q), (68, .int .i64 i), (73, .int .i64 ((X : Int) * Z))] 93 (G19 W0 B X Y Z cv q l) a w | 8 => SG [(1, .int .i64 i), (2, .pointer (some ⟨B, 0, none⟩)), (5, .int .i64 x), (6, .int .i64 z), (7, .int .i64 y), (67, q), (74, .int .i64 s)] 93 (G19 W0 B X Y Z cv q l) a w | 9 => ∃ tb, SG [(1, .int .i64 i), (2, .pointer (some ⟨B, 0, none⟩)), (5, .int .i64 x), (6, .int .i64 z), (7, .int .i64 y), (67, q), (75, .slice (some ⟨tb, 0, none⟩) 1 1)] 93 (fun w => G19 W0 B X Y Z cv q l w ∧ w.cell? ⟨tb, 0, none⟩ = some (.int .i64 s)) a w | 10 => ∃ q', SG [(1, .int .i64 i), (2, .pointer (some ⟨B, 0, none⟩)), (5, .int .i64 x), (6, .int .i64 z), (7, .int .i64 y), (76, q')] 93 (G19 W0 B X Y Z cv q' (l ++ [s])) a w | _ => ∃ q', SG [(1, .int .i64 i), (2, .pointer (some ⟨B, 0, none⟩)), (5, .int .i64 x), (6, .int .i64 z), (7, .int .i64 y), (8, q')] 93 (G19 W0 B X Y Z cv q' (l ++ [s])) a w) (show SG [(1, .int .i64 i), (2, .pointer (some ⟨B, 0, none⟩)), (5, .int .i64 x), (6, .int .i64 z), (7, .int .i64 y), (8, q)] 93 (G19 W0 B X Y Z cv q l) a w from h0) ⟨?_, ?_, ?_, ?_, ?_, ?_, ?_, ?_, ?_, ?_, ?_, trivial⟩ ?_
  · intro a w hI
    have hI : SG [(1, .int .i64 i), (2, .pointer (some ⟨B, 0, none⟩)), (5, .int .i64 x), (6, .int .i64 z), (7, .int .i64 y), (8, q)] 93 (G19 W0 B X Y Z cv q l) a w := hI
    have e8 := hI.g 8 rfl
    go_simp
    exact hI.put (d := 67) (by decide) (by simp) hI.wp
  · intro a w hI
    have hI : SG [(1, .int .i64 i), (2, .pointer (some ⟨B, 0, none⟩)), (5, .int .i64 x), (6, .int .i64 z), (7, .int .i64 y), (67, q)] 93 (G19 W0 B X Y Z cv q l) a w := hI
    have e1 := hI.g 1 rfl
    go_simp
    exact hI.put (d := 68) (by decide) (by simp) hI.wp
  · intro a w hI
    have hI : SG [(1, .int .i64 i), (2, .pointer (some ⟨B, 0, none⟩)), (5, .int .i64 x), (6, .int .i64 z), (7, .int .i64 y), (67, q), (68, .int .i64 i)] 93 (G19 W0 B X Y Z cv q l) a w := hI
    have e2 := hI.g 2 rfl
    go_simp
    exact hI.put (d := 69) (by decide) (by simp) hI.wp
  · intro a w hI
    have hI : SG [(1, .int .i64 i), (2, .pointer (some ⟨B, 0, none⟩)), (5, .int .i64 x), (6, .int .i64 z), (7, .int .i64 y), (67, q), (68, .int .i64 i), (69, .pointer (some ⟨B, 0, none⟩))] 93 (G19 W0 B X Y Z cv q l) a w := hI
    have e69 := hI.g 69 rfl
    have cc0 : w.cell? ⟨B, 0, none⟩ = _ := hI.wp.cell rfl
    go_simp
    exact hI.put (d := 70) (by decide) (by simp) hI.wp
  · intro a w hI
    have hI : SG [(1, .int .i64 i), (2, .pointer (some ⟨B, 0, none⟩)), (5, .int .i64 x), (6, .int .i64 z), (7, .int .i64 y), (67, q), (68, .int .i64 i), (70, .int .i64 X)] 93 (G19 W0 B X Y Z cv q l) a w := hI
    have e2 := hI.g 2 rfl
    go_simp
    exact hI.put (d := 71) (by decide) (by simp) hI.wp
  · intro a w hI
    have hI : SG [(1, .int .i64 i), (2, .pointer (some ⟨B, 0, none⟩)), (5, .int .i64 x), (6, .int .i64 z), (7, .int .i64 y), (67, q), (68, .int .i64 i), (70, .int .i64 X), (71, .pointer (some ⟨B, 2, none⟩))] 93 (G19 W0 B X Y Z cv q l) a w := hI
    have e71 := hI.g 71 rfl
    have cc0 : w.cell? ⟨B, 2, none⟩ = _ := hI.wp.cell rfl
    go_simp
    exact hI.put (d := 72) (by decide) (by simp) hI.wp
  · intro a w hI
    have hI : SG [(1, .int .i64 i), (2, .pointer (some ⟨B, 0, none⟩)), (5, .int .i64 x), (6, .int .i64 z), (7, .int .i64 y), (67, q), (68, .int .i64 i), (70, .int .i64 X), (72, .int .i64 Z)] 93 (G19 W0 B X Y Z cv q l) a w := hI
    have e70 := hI.g 70 rfl
    have e72 := hI.g 72 rfl
    go_simp
    exact hI.put (d := 73) (by decide) (by simp) hI.wp
  · intro a w hI
    have hI : SG [(1, .int .i64 i), (2, .pointer (some ⟨B, 0, none⟩)), (5, .int .i64 x), (6, .int .i64 z), (7, .int .i64 y), (67, q), (68, .int .i64 i), (73, .int .i64 ((X : Int) * Z))] 93 (G19 W0 B X Y Z cv q l) a w := hI
    have e68 := hI.g 68 rfl
    have e73 := hI.g 73 rfl
    go_simp
    exact hI.put (d := 74) (by decide) (by simp) hI.wp
  · intro a w hI
    have hI : SG [(1, .int .i64 i), (2, .pointer (some ⟨B, 0, none⟩)), (5, .int .i64 x), (6, .int .i64 z), (7, .int .i64 y), (67, q), (74, .int .i64 s)] 93 (G19 W0 B X Y Z cv q l) a w := hI
    have e74 := hI.g 74 rfl
    go_simp
    refine ⟨w.heap.size, hI.put (d := 75) (by decide) (by simp) ⟨hI.wp.below ((Below.refl _ _).alloc (Nat.le_refl _) _), by unfold World.cell?; rw [World.alloc_heap_new]; rfl⟩⟩
  · rintro a w ⟨tb, hI⟩
    have hI : SG [(1, .int .i64 i), (2, .pointer (some ⟨B, 0, none⟩)), (5, .int .i64 x), (6, .int .i64 z), (7, .int .i64 y), (67, q), (75, .slice (some ⟨tb, 0, none⟩) 1 1)] 93 (fun w => G19 W0 B X Y Z cv q l w ∧ w.cell? ⟨tb, 0, none⟩ = some (.int .i64 s)) a w := hI
    have e67 := hI.g 67 rfl
    have e75 := hI.g 75 rfl
    have htm := hI.wp.2
    rw [if_pos (by simp [Region.wanted])]
    refine operIn_append (.tmp 67) (.tmp 75) 40 rfl (B + 1) 3 i0 (.int .i64 0) 1 8 under40 hi hz0 hz1 hz2 rfl (by decide) q l.length (intsV l) (by simpa [go_sem] using e67) hI.wp.1.own ⟨tb, 0, none⟩ 1 1 [.int .i64 s] (by simpa [go_sem] using e75) rfl (fun j u hj => by
        match j, hj with
        | 0, hj => simp at hj; subst hj; exact htm
        | j + 1, hj => simp at hj) (by simp [Value.oneCell']) (by unfold maxLen; omega) (by omega) hI.wp.1.lt ?_
    intro V2 w1 h1 h2 h3
    exact ⟨V2, hI.put (d := 76) (by decide) (by simp) (hI.wp.1.grown h1 h2)⟩
  · rintro a w ⟨q', hI⟩
    have hI : SG [(1, .int .i64 i), (2, .pointer (some ⟨B, 0, none⟩)), (5, .int .i64 x), (6, .int .i64 z), (7, .int .i64 y), (76, q')] 93 (G19 W0 B X Y Z cv q' (l ++ [s])) a w := hI
    have e76 := hI.g 76 rfl
    go_simp
    exact ⟨q', hI.put (d := 8) (by decide) (by simp) hI.wp⟩
  · rintro a w ⟨q', hI⟩
    have hI : SG [(1, .int .i64 i), (2, .pointer (some ⟨B, 0, none⟩)), (5, .int .i64 x), (6, .int .i64 z), (7, .int .i64 y), (8, q')] 93 (G19 W0 B X Y Z cv q' (l ++ [s])) a w := hI
    exact hQ q' a w hI
set_option maxRecDepth 100000 in
set_option maxHeartbeats 4000000 in
theorem s14 (n : Nat) {W0 : World} {B X Y Z : Nat} {cv q : Value} {l : List Nat} (hl : l.length < 17592186044415) (i x z y s : Nat) (hm : IntKind.i64.wrap ((X : Int) * Z) = (X : Int) * Z) (hs : IntKind.i64.wrap ((i : Int) + X * Z) = (s : Int)) (Q : Exit → Act → World → Prop) (a : Act) (w : World) (h0 : SG [(1, .int .i64 i), (2, .pointer (some ⟨B, 0, none⟩)), (5, .int .i64 x), (6, .int .i64 z), (7, .int .i64 y), (8, q)] 93 (G19 W0 B X Y Z cv q l) a w)
    (hQ : ∀ q' a w, SG [(1, .int .i64 i), (2, .pointer (some ⟨B, 0, none⟩)), (5, .int .i64 x), (6, .int .i64 z), (7, .int .i64 y), (8, q')] 93 (G19 W0 B X Y Z cv q' (l ++ [s])) a w → Q .normal a w) : (regOf 14 C19).wpIn Fence.wide n Try.prog Q a w := by
  obtain ⟨i0, hi, hz0, hz1, hz2⟩ := info_parts info3
  simp only [regOf, C19, Try.f19, Option.getD, Nat.reduceBEq, Bool.false_eq_true, if_true, if_false]
  refine region_sq (fun k_ a w => match k_ with | 0 => SG [(1, .int .i64 i), (2, .pointer (some ⟨B, 0, none⟩)), (5, .int .i64 x), (6, .int .i64 z), (7, .int .i64 y), (8, q)] 93 (G19 W0 B X Y Z cv q l) a w | 1 => SG [(1, .int .i64 i), (2, .pointer (some ⟨B, 0, none⟩)), (5, .int .i64 x), (6, .int .i64 z), (7, .int .i64 y), (82, q)] 93 (G19 W0 B X Y Z cv q l) a w | 2 => SG [(1, .int .i64 i), (2, .pointer (some ⟨B, 0, none⟩)), (5, .int .i64 x), (6, .int .i64 z), (7, .int .i64 y), (82, q), (83, .int .i64 i)] 93 (G19 W0 B X Y Z cv q l) a w | 3 => SG [(1, .int .i64 i), (2, .pointer (some ⟨B, 0, none⟩)), (5, .int .i64 x), (6, .int .i64 z), (7, .int .i64 y), (82, q), (83, .int .i64 i), (84, .pointer (some ⟨B, 0, none⟩))] 93 (G19 W0 B X Y Z cv q l) a w | 4 => SG [(1, .int .i64 i), (2, .pointer (some ⟨B, 0, none⟩)), (5, .int .i64 x), (6, .int .i64 z), (7, .int .i64 y), (82, q), (83, .int .i64 i), (85, .int .i64 X)] 93 (G19 W0 B X Y Z cv q l) a w | 5 => SG [(1, .int .i64 i), (2, .pointer (some ⟨B, 0, none⟩)), (5, .int .i64 x), (6, .int .i64 z), (7, .int .i64 y), (82, q), (83, .int .i64 i), (85, .int .i64 X), (86, .pointer (some ⟨B, 2, none⟩))] 93 (G19 W0 B X Y Z cv q l) a w | 6 => SG [(1, .int .i64 i), (2, .pointer (some ⟨B, 0, none⟩)), (5, .int .i64 x), (6, .int .i64 z), (7, .int .i64 y), (82, q), (83, .int .i64 i), (85, .int .i64 X), (87, .int .i64 Z)] 93 (G19 W0 B X Y Z cv q l) a w | 7 => SG [(1, .int .i64 i), (2, .pointer (some ⟨B, 0, none⟩)), (5, .int .i64 x), (6, .int .i64 z), (7, .int .i64 y), (82, q), (83, .int .i64 i), (88, .int .i64 ((X : Int) * Z))] 93 (G19 W0 B X Y Z cv q l) a w | 8 => SG [(1, .int .i64 i), (2, .pointer (some ⟨B, 0, none⟩)), (5, .int .i64 x), (6, .int .i64 z), (7, .int .i64 y), (82, q), (89, .int .i64 s)] 93 (G19 W0 B X Y Z cv q l) a w | 9 => ∃ tb, SG [(1, .int .i64 i), (2, .pointer (some ⟨B, 0, none⟩)), (5, .int .i64 x), (6, .int .i64 z), (7, .int .i64 y), (82, q), (90, .slice (some ⟨tb, 0, none⟩) 1 1)] 93 (fun w => G19 W0 B X Y Z cv q l w ∧ w.cell? ⟨tb, 0, none⟩ = some (.int .i64 s)) a w | 10 => ∃ q', SG [(1, .int .i64 i), (2, .pointer (some ⟨B, 0, none⟩)), (5, .int .i64 x), (6, .int .i64 z), (7, .int .i64 y), (91, q')] 93 (G19 W0 B X Y Z cv q' (l ++ [s])) a w | _ => ∃ q', SG [(1, .int .i64 i), (2, .pointer (some ⟨B, 0, none⟩)), (5, .int .i64 x), (6, .int .i64 z), (7, .int .i64 y), (8, q')] 93 (G19 W0 B X Y Z cv q' (l ++ [s])) a w) (show SG [(1, .int .i64 i), (2, .pointer (some ⟨B, 0, none⟩)), (5, .int .i64 x), (6, .int .i64 z), (7, .int .i64 y), (8, q)] 93 (G19 W0 B X Y Z cv q l) a w from h0) ⟨?_, ?_, ?_, ?_, ?_, ?_, ?_, ?_, ?_, ?_, ?_, trivial⟩ ?_
  · intro a w hI
    have hI : SG [(1, .int .i64 i), (2, .pointer (some ⟨B, 0, none⟩)), (5, .int .i64 x), (6, .int .i64 z), (7, .int .i64 y), (8, q)] 93 (G19 W0 B X Y Z cv q l) a w := hI
    have e8 := hI.g 8 rfl
    go_simp
    exact hI.put (d := 82) (by decide) (by simp) hI.wp
  · intro a w hI
    have hI : SG [(1, .int .i64 i), (2, .pointer (some ⟨B, 0, none⟩)), (5, .int .i64 x), (6, .int .i64 z), (7, .int .i64 y), (82, q)] 93 (G19 W0 B X Y Z cv q l) a w := hI
    have e1 := hI.g 1 rfl
    go_simp
    exact hI.put (d := 83) (by decide) (by simp) hI.wp
  · intro a w hI
    have hI : SG [(1, .int .i64 i), (2, .pointer (some ⟨B, 0, none⟩)), (5, .int .i64 x), (6, .int .i64 z), (7, .int .i64 y), (82, q), (83, .int .i64 i)] 93 (G19 W0 B X Y Z cv q l) a w := hI
    have e2 := hI.g 2 rfl
    go_simp
    exact hI.put (d := 84) (by decide) (by simp) hI.wp
  · intro a w hI
    have hI : SG [(1, .int .i64 i), (2, .pointer (some ⟨B, 0, none⟩)), (5, .int .i64 x), (6, .int .i64 z), (7, .int .i64 y), (82, q), (83, .int .i64 i), (84, .pointer (some ⟨B, 0, none⟩))] 93 (G19 W0 B X Y Z cv q l) a w := hI
    have e84 := hI.g 84 rfl
    have cc0 : w.cell? ⟨B, 0, none⟩ = _ := hI.wp.cell rfl
    go_simp
    exact hI.put (d := 85) (by decide) (by simp) hI.wp
  · intro a w hI
    have hI : SG [(1, .int .i64 i), (2, .pointer (some ⟨B, 0, none⟩)), (5, .int .i64 x), (6, .int .i64 z), (7, .int .i64 y), (82, q), (83, .int .i64 i), (85, .int .i64 X)] 93 (G19 W0 B X Y Z cv q l) a w := hI
    have e2 := hI.g 2 rfl
    go_simp
    exact hI.put (d := 86) (by decide) (by simp) hI.wp
  · intro a w hI
    have hI : SG [(1, .int .i64 i), (2, .pointer (some ⟨B, 0, none⟩)), (5, .int .i64 x), (6, .int .i64 z), (7, .int .i64 y), (82, q), (83, .int .i64 i), (85, .int .i64 X), (86, .pointer (some ⟨B, 2, none⟩))] 93 (G19 W0 B X Y Z cv q l) a w := hI
    have e86 := hI.g 86 rfl
    have cc0 : w.cell? ⟨B, 2, none⟩ = _ := hI.wp.cell rfl
    go_simp
    exact hI.put (d := 87) (by decide) (by simp) hI.wp
  · intro a w hI
    have hI : SG [(1, .int .i64 i), (2, .pointer (some ⟨B, 0, none⟩)), (5, .int .i64 x), (6, .int .i64 z), (7, .int .i64 y), (82, q), (83, .int .i64 i), (85, .int .i64 X), (87, .int .i64 Z)] 93 (G19 W0 B X Y Z cv q l) a w := hI
    have e85 := hI.g 85 rfl
    have e87 := hI.g 87 rfl
    go_simp
    exact hI.put (d := 88) (by decide) (by simp) hI.wp
  · intro a w hI
    have hI : SG [(1, .int .i64 i), (2, .pointer (some ⟨B, 0, none⟩)), (5, .int .i64 x), (6, .int .i64 z), (7, .int .i64 y), (82, q), (83, .int .i64 i), (88, .int .i64 ((X : Int) * Z))] 93 (G19 W0 B X Y Z cv q l) a w := hI
    have e83 := hI.g 83 rfl
    have e88 := hI.g 88 rfl
    go_simp
    exact hI.put (d := 89) (by decide) (by simp) hI.wp
  · intro a w hI
    have hI : SG [(1, .int .i64 i), (2, .pointer (some ⟨B, 0, none⟩)), (5, .int .i64 x), (6, .int .i64 z), (7, .int .i64 y), (82, q), (89, .int .i64 s)] 93 (G19 W0 B X Y Z cv q l) a w := hI
    have e89 := hI.g 89 rfl
    go_simp
    refine ⟨w.heap.size, hI.put (d := 90) (by decide) (by simp) ⟨hI.wp.below ((Below.refl _ _).alloc (Nat.le_refl _) _), by unfold World.cell?; rw [World.alloc_heap_new]; rfl⟩⟩
  · rintro a w ⟨tb, hI⟩
    have hI : SG [(1, .int .i64 i), (2, .pointer (some ⟨B, 0, none⟩)), (5, .int .i64 x), (6, .int .i64 z), (7, .int .i64 y), (82, q), (90, .slice (some ⟨tb, 0, none⟩) 1 1)] 93 (fun w => G19 W0 B X Y Z cv q l w ∧ w.cell? ⟨tb, 0, none⟩ = some (.int .i64 s)) a w := hI
    have e82 := hI.g 82 rfl
    have e90 := hI.g 90 rfl
    have htm := hI.wp.2
    rw [if_pos (by simp [Region.wanted])]
    refine operIn_append (.tmp 82) (.tmp 90) 40 rfl (B + 1) 3 i0 (.int .i64 0) 1 8 under40 hi hz0 hz1 hz2 rfl (by decide) q l.length (intsV l) (by simpa [go_sem] using e82) hI.wp.1.own ⟨tb, 0, none⟩ 1 1 [.int .i64 s] (by simpa [go_sem] using e90) rfl (fun j u hj => by
        match j, hj with
        | 0, hj => simp at hj; subst hj; exact htm
        | j + 1, hj => simp at hj) (by simp [Value.oneCell']) (by unfold maxLen; omega) (by omega) hI.wp.1.lt ?_
    intro V2 w1 h1 h2 h3
    exact ⟨V2, hI.put (d := 91) (by decide) (by simp) (hI.wp.1.grown h1 h2)⟩
  · rintro a w ⟨q', hI⟩
    have hI : SG [(1, .int .i64 i), (2, .pointer (some ⟨B, 0, none⟩)), (5, .int .i64 x), (6, .int .i64 z), (7, .int .i64 y), (91, q')] 93 (G19 W0 B X Y Z cv q' (l ++ [s])) a w := hI
    have e91 := hI.g 91 rfl
    go_simp
    exact ⟨q', hI.put (d := 8) (by decide) (by simp) hI.wp⟩
  · rintro a w ⟨q', hI⟩
    have hI : SG [(1, .int .i64 i), (2, .pointer (some ⟨B, 0, none⟩)), (5, .int .i64 x), (6, .int .i64 z), (7, .int .i64 y), (8, q')] 93 (G19 W0 B X Y Z cv q' (l ++ [s])) a w := hI
    exact hQ q' a w hI
end Go.Proofs.Ytmgiabehooghcaa
/-! from zp -/
namespace Go.Proofs.Ytmgiabehooghcaa
open Go.RowKit Go.Shelf
attribute [local go_sem] Oper.semAt_some

section
variable {W0 : World} {B X Y Z : Nat} {cv q : Value} {l : List Nat}
theorem t1 (n i x z y : Nat) (hl : l.length < 100) (hs : 0 < x → IntKind.i64.wrap ((i : Int) - 1) = (((i - 1) : Nat) : Int)) (Q : Exit → Act → World → Prop) (a : Act) (w : World) (h0 : SG [(1, .int .i64 i), (2, .pointer (some ⟨B, 0, none⟩)), (5, .int .i64 x), (6, .int .i64 z), (7, .int .i64 y), (8, q)] 93 (G19 W0 B X Y Z cv q l) a w)
    (hQ : ∀ q' a w, SG [(1, .int .i64 i), (2, .pointer (some ⟨B, 0, none⟩)), (5, .int .i64 x), (6, .int .i64 z), (7, .int .i64 y), (8, q')] 93 (G19 W0 B X Y Z cv q' (l ++ if 0 < x then [(i - 1)] else [])) a w → Q .normal a w) : (Code.seq (regOf 3 C19) (.cond (.tmp 28) (regOf 4 C19) .skip)).wpIn Fence.wide n Try.prog Q a w := by
  have hg := h0.wp
  have cx := hg.cell (j := 0) rfl
  have cy := hg.cell (j := 1) rfl
  have cz := hg.cell (j := 2) rfl
  refine wpIn_seq (s3 n w B i x z y q _ a h0.sr ?_)
  intro a1 h1
  have h1 := h1.sg (G := G19 W0 B X Y Z cv q l) hg
  by_cases c : 0 < x
  · refine wpIn_cond (t := true) (by rw [eval_tmp, h1.kn (28, .bool (decide (0 < x))) (by simp)]; simp; omega) ?_
    refine s4 n (by omega) i x z y (i - 1) (hs c) _ a1 w (h1.sub (by intro p hp; simp only [List.mem_cons, List.not_mem_nil, or_false] at hp ⊢; rcases hp with h | h | h | h | h | h <;> simp [h])) ?_
    intro q' a w h
    rw [if_pos c] at hQ
    exact hQ q' a w h
  · refine wpIn_cond (t := false) (by rw [eval_tmp, h1.kn (28, .bool (decide (0 < x))) (by simp)]; simp; omega) (wpIn_skip ?_)
    rw [if_neg c, List.append_nil] at hQ
    exact hQ q a1 w (h1.sub (by intro p hp; simp only [List.mem_cons, List.not_mem_nil, or_false] at hp ⊢; rcases hp with h | h | h | h | h | h <;> simp [h]))
theorem t2 (n i x z y : Nat) (hl : l.length < 100) (hx : x < 262144) (hs : x + 1 < X → IntKind.i64.wrap ((i : Int) + 1) = (((i + 1) : Nat) : Int)) (Q : Exit → Act → World → Prop) (a : Act) (w : World) (h0 : SG [(1, .int .i64 i), (2, .pointer (some ⟨B, 0, none⟩)), (5, .int .i64 x), (6, .int .i64 z), (7, .int .i64 y), (8, q)] 93 (G19 W0 B X Y Z cv q l) a w)
    (hQ : ∀ q' a w, SG [(1, .int .i64 i), (2, .pointer (some ⟨B, 0, none⟩)), (5, .int .i64 x), (6, .int .i64 z), (7, .int .i64 y), (8, q')] 93 (G19 W0 B X Y Z cv q' (l ++ if x + 1 < X then [(i + 1)] else [])) a w → Q .normal a w) : (Code.seq (regOf 5 C19) (.cond (.tmp 38) (regOf 6 C19) .skip)).wpIn Fence.wide n Try.prog Q a w := by
  have hg := h0.wp
  have cx := hg.cell (j := 0) rfl
  have cy := hg.cell (j := 1) rfl
  have cz := hg.cell (j := 2) rfl
  refine wpIn_seq (s5 n w B i x z y q X (by omega) cx _ a h0.sr ?_)
  intro a1 h1
  have h1 := h1.sg (G := G19 W0 B X Y Z cv q l) hg
  by_cases c : x + 1 < X
  · refine wpIn_cond (t := true) (by rw [eval_tmp, h1.kn (38, .bool (decide ((x : Int) + 1 < X))) (by simp)]; simp; omega) ?_
    refine s6 n (by omega) i x z y (i + 1) (hs c) _ a1 w (h1.sub (by intro p hp; simp only [List.mem_cons, List.not_mem_nil, or_false] at hp ⊢; rcases hp with h | h | h | h | h | h <;> simp [h])) ?_
    intro q' a w h
    rw [if_pos c] at hQ
    exact hQ q' a w h
  · refine wpIn_cond (t := false) (by rw [eval_tmp, h1.kn (38, .bool (decide ((x : Int) + 1 < X))) (by simp)]; simp; omega) (wpIn_skip ?_)
    rw [if_neg c, List.append_nil] at hQ
    exact hQ q a1 w (h1.sub (by intro p hp; simp only [List.mem_cons, List.not_mem_nil, or_false] at hp ⊢; rcases hp with h | h | h | h | h | h <;> simp [h]))
theorem t3 (n i x z y : Nat) (hl : l.length < 100) (hs : 0 < z → IntKind.i64.wrap ((i : Int) - X) = (((i - X) : Nat) : Int)) (Q : Exit → Act → World → Prop) (a : Act) (w : World) (h0 : SG [(1, .int .i64 i), (2, .pointer (some ⟨B, 0, none⟩)), (5, .int .i64 x), (6, .int .i64 z), (7, .int .i64 y), (8, q)] 93 (G19 W0 B X Y Z cv q l) a w)
    (hQ : ∀ q' a w, SG [(1, .int .i64 i), (2, .pointer (some ⟨B, 0, none⟩)), (5, .int .i64 x), (6, .int .i64 z), (7, .int .i64 y), (8, q')] 93 (G19 W0 B X Y Z cv q' (l ++ if 0 < z then [(i - X)] else [])) a w → Q .normal a w) : (Code.seq (regOf 7 C19) (.cond (.tmp 45) (regOf 8 C19) .skip)).wpIn Fence.wide n Try.prog Q a w := by
  have hg := h0.wp
  have cx := hg.cell (j := 0) rfl
  have cy := hg.cell (j := 1) rfl
  have cz := hg.cell (j := 2) rfl
  refine wpIn_seq (s7 n w B i x z y q _ a h0.sr ?_)
  intro a1 h1
  have h1 := h1.sg (G := G19 W0 B X Y Z cv q l) hg
  by_cases c : 0 < z
  · refine wpIn_cond (t := true) (by rw [eval_tmp, h1.kn (45, .bool (decide (0 < z))) (by simp)]; simp; omega) ?_
    refine s8 n (by omega) i x z y (i - X) (hs c) _ a1 w (h1.sub (by intro p hp; simp only [List.mem_cons, List.not_mem_nil, or_false] at hp ⊢; rcases hp with h | h | h | h | h | h <;> simp [h])) ?_
    intro q' a w h
    rw [if_pos c] at hQ
    exact hQ q' a w h
  · refine wpIn_cond (t := false) (by rw [eval_tmp, h1.kn (45, .bool (decide (0 < z))) (by simp)]; simp; omega) (wpIn_skip ?_)
    rw [if_neg c, List.append_nil] at hQ
    exact hQ q a1 w (h1.sub (by intro p hp; simp only [List.mem_cons, List.not_mem_nil, or_false] at hp ⊢; rcases hp with h | h | h | h | h | h <;> simp [h]))
theorem t4 (n i x z y : Nat) (hl : l.length < 100) (hz : z < 262144) (hs : z + 1 < Z → IntKind.i64.wrap ((i : Int) + X) = (((i + X) : Nat) : Int)) (Q : Exit → Act → World → Prop) (a : Act) (w : World) (h0 : SG [(1, .int .i64 i), (2, .pointer (some ⟨B, 0, none⟩)), (5, .int .i64 x), (6, .int .i64 z), (7, .int .i64 y), (8, q)] 93 (G19 W0 B X Y Z cv q l) a w)
    (hQ : ∀ q' a w, SG [(1, .int .i64 i), (2, .pointer (some ⟨B, 0, none⟩)), (5, .int .i64 x), (6, .int .i64 z), (7, .int .i64 y), (8, q')] 93 (G19 W0 B X Y Z cv q' (l ++ if z + 1 < Z then [(i + X)] else [])) a w → Q .normal a w) : (Code.seq (regOf 9 C19) (.cond (.tmp 57) (regOf 10 C19) .skip)).wpIn Fence.wide n Try.prog Q a w := by
  have hg := h0.wp
  have cx := hg.cell (j := 0) rfl
  have cy := hg.cell (j := 1) rfl
  have cz := hg.cell (j := 2) rfl
  refine wpIn_seq (s9 n w B i x z y q Z (by omega) cz _ a h0.sr ?_)
  intro a1 h1
  have h1 := h1.sg (G := G19 W0 B X Y Z cv q l) hg
  by_cases c : z + 1 < Z
  · refine wpIn_cond (t := true) (by rw [eval_tmp, h1.kn (57, .bool (decide ((z : Int) + 1 < Z))) (by simp)]; simp; omega) ?_
    refine s10 n (by omega) i x z y (i + X) (hs c) _ a1 w (h1.sub (by intro p hp; simp only [List.mem_cons, List.not_mem_nil, or_false] at hp ⊢; rcases hp with h | h | h | h | h | h <;> simp [h])) ?_
    intro q' a w h
    rw [if_pos c] at hQ
    exact hQ q' a w h
  · refine wpIn_cond (t := false) (by rw [eval_tmp, h1.kn (57, .bool (decide ((z : Int) + 1 < Z))) (by simp)]; simp; omega) (wpIn_skip ?_)
    rw [if_neg c, List.append_nil] at hQ
    exact hQ q a1 w (h1.sub (by intro p hp; simp only [List.mem_cons, List.not_mem_nil, or_false] at hp ⊢; rcases hp with h | h | h | h | h | h <;> simp [h]))
theorem t5 (n i x z y : Nat) (hm : IntKind.i64.wrap ((X : Int) * Z) = (X : Int) * Z) (hl : l.length < 100) (hs : 0 < y → IntKind.i64.wrap ((i : Int) - X * Z) = (((i - X * Z) : Nat) : Int)) (Q : Exit → Act → World → Prop) (a : Act) (w : World) (h0 : SG [(1, .int .i64 i), (2, .pointer (some ⟨B, 0, none⟩)), (5, .int .i64 x), (6, .int .i64 z), (7, .int .i64 y), (8, q)] 93 (G19 W0 B X Y Z cv q l) a w)
    (hQ : ∀ q' a w, SG [(1, .int .i64 i), (2, .pointer (some ⟨B, 0, none⟩)), (5, .int .i64 x), (6, .int .i64 z), (7, .int .i64 y), (8, q')] 93 (G19 W0 B X Y Z cv q' (l ++ if 0 < y then [(i - X * Z)] else [])) a w → Q .normal a w) : (Code.seq (regOf 11 C19) (.cond (.tmp 66) (regOf 12 C19) .skip)).wpIn Fence.wide n Try.prog Q a w := by
  have hg := h0.wp
  have cx := hg.cell (j := 0) rfl
  have cy := hg.cell (j := 1) rfl
  have cz := hg.cell (j := 2) rfl
  refine wpIn_seq (s11 n w B i x z y q _ a h0.sr ?_)
  intro a1 h1
  have h1 := h1.sg (G := G19 W0 B X Y Z cv q l) hg
  by_cases c : 0 < y
  · refine wpIn_cond (t := true) (by rw [eval_tmp, h1.kn (66, .bool (decide (0 < y))) (by simp)]; simp; omega) ?_
    refine s12 n (by omega) i x z y (i - X * Z) hm (hs c) _ a1 w (h1.sub (by intro p hp; simp only [List.mem_cons, List.not_mem_nil, or_false] at hp ⊢; rcases hp with h | h | h | h | h | h <;> simp [h])) ?_
    intro q' a w h
    rw [if_pos c] at hQ
    exact hQ q' a w h
  · refine wpIn_cond (t := false) (by rw [eval_tmp, h1.kn (66, .bool (decide (0 < y))) (by simp)]; simp; omega) (wpIn_skip ?_)
    rw [if_neg c, List.append_nil] at hQ
    exact hQ q a1 w (h1.sub (by intro p hp; simp only [List.mem_cons, List.not_mem_nil, or_false] at hp ⊢; rcases hp with h | h | h | h | h | h <;> simp [h]))
theorem t6 (n i x z y : Nat) (hm : IntKind.i64.wrap ((X : Int) * Z) = (X : Int) * Z) (hl : l.length < 100) (hy : y < 262144) (hs : y + 1 < Y → IntKind.i64.wrap ((i : Int) + X * Z) = (((i + X * Z) : Nat) : Int)) (Q : Exit → Act → World → Prop) (a : Act) (w : World) (h0 : SG [(1, .int .i64 i), (2, .pointer (some ⟨B, 0, none⟩)), (5, .int .i64 x), (6, .int .i64 z), (7, .int .i64 y), (8, q)] 93 (G19 W0 B X Y Z cv q l) a w)
    (hQ : ∀ q' a w, SG [(1, .int .i64 i), (2, .pointer (some ⟨B, 0, none⟩)), (5, .int .i64 x), (6, .int .i64 z), (7, .int .i64 y), (8, q')] 93 (G19 W0 B X Y Z cv q' (l ++ if y + 1 < Y then [(i + X * Z)] else [])) a w → Q .normal a w) : (Code.seq (regOf 13 C19) (.cond (.tmp 81) (regOf 14 C19) .skip)).wpIn Fence.wide n Try.prog Q a w := by
  have hg := h0.wp
  have cx := hg.cell (j := 0) rfl
  have cy := hg.cell (j := 1) rfl
  have cz := hg.cell (j := 2) rfl
  refine wpIn_seq (s13 n w B i x z y q Y (by omega) cy _ a h0.sr ?_)
  intro a1 h1
  have h1 := h1.sg (G := G19 W0 B X Y Z cv q l) hg
  by_cases c : y + 1 < Y
  · refine wpIn_cond (t := true) (by rw [eval_tmp, h1.kn (81, .bool (decide ((y : Int) + 1 < Y))) (by simp)]; simp; omega) ?_
    refine s14 n (by omega) i x z y (i + X * Z) hm (hs c) _ a1 w (h1.sub (by intro p hp; simp only [List.mem_cons, List.not_mem_nil, or_false] at hp ⊢; rcases hp with h | h | h | h | h | h <;> simp [h])) ?_
    intro q' a w h
    rw [if_pos c] at hQ
    exact hQ q' a w h
  · refine wpIn_cond (t := false) (by rw [eval_tmp, h1.kn (81, .bool (decide ((y : Int) + 1 < Y))) (by simp)]; simp; omega) (wpIn_skip ?_)
    rw [if_neg c, List.append_nil] at hQ
    exact hQ q a1 w (h1.sub (by intro p hp; simp only [List.mem_cons, List.not_mem_nil, or_false] at hp ⊢; rcases hp with h | h | h | h | h | h <;> simp [h]))
end
def sidesQ (X Y Z i : Nat) : List Nat :=
  ((((((([] : List Nat) ++ if 0 < i % X then [i - 1] else []) ++ if i % X + 1 < X then [i + 1] else []) ++ if 0 < i / X % Z then [i - X] else []) ++ if i / X % Z + 1 < Z then [i + X] else []) ++
    if 0 < i / X / Z then [i - X * Z] else []) ++ if i / X / Z + 1 < Y then [i + X * Z] else [])
theorem ite_len (c : Prop) [Decidable c] (v : Nat) : (if c then [v] else []).length ≤ 1 := by split <;> simp
theorem sidesQ_mem {X Y Z i s : Nat} : s ∈ sidesQ X Y Z i ↔ s ∈ Glow.sides X Y Z i := by
  unfold sidesQ Glow.sides
  simp only [List.mem_append, List.not_mem_nil, false_or]
  constructor
  · rintro (((((h | h) | h) | h) | h) | h)
    · exact .inr (.inl h)
    · exact .inl h
    · exact .inr (.inr (.inr (.inl h)))
    · exact .inr (.inr (.inl h))
    · exact .inr (.inr (.inr (.inr (.inr h))))
    · exact .inr (.inr (.inr (.inr (.inl h))))
  · rintro (h | h | h | h | h | h)
    · exact .inl (.inl (.inl (.inl (.inr h))))
    · exact .inl (.inl (.inl (.inl (.inl h))))
    · exact .inl (.inl (.inr h))
    · exact .inl (.inl (.inl (.inr h)))
    · exact .inr h
    · exact .inl (.inr h)
theorem C19_eq : C19 = .seq (regOf 0 C19) (.seq (regOf 1 C19) (.seq (regOf 2 C19) (.seq (.seq (regOf 3 C19) (.cond (.tmp 28) (regOf 4 C19) .skip)) (.seq (.seq (regOf 5 C19) (.cond (.tmp 38) (regOf 6 C19) .skip)) (.seq (.seq (regOf 7 C19) (.cond (.tmp 45) (regOf 8 C19) .skip))
    (.seq (.seq (regOf 9 C19) (.cond (.tmp 57) (regOf 10 C19) .skip)) (.seq (.seq (regOf 11 C19) (.cond (.tmp 66) (regOf 12 C19) .skip)) (.seq (.seq (regOf 13 C19) (.cond (.tmp 81) (regOf 14 C19) .skip)) (.seq (regOf 15 C19) .ret))))))))) := by kernel_rfl
set_option maxHeartbeats 1000000 in
/-- The law's sides: a new list. -/
theorem sides_law (n X Y Z i : Nat) (cv : Value) (W : World) (hX : 1 ≤ X ∧ X ≤ 256) (hY : 1 ≤ Y ∧ Y ≤ 256) (hZ : 1 ≤ Z ∧ Z ≤ 256) (hi : i < X * Y * Z) (hN : X * Y * Z ≤ 262144) :
    CallsIn Fence.wide n Try.prog 19 #[.agg #[.int .i64 X, .int .i64 Y, .int .i64 Z, cv], .int .i64 i] W fun e w' => ∃ q, e = .returned q ∧ Below W.heap.size W w' ∧ w'.ownsRow (W.heap.size + 1) 3 1 q (sidesQ X Y Z i).length (intsV (sidesQ X Y Z i)) := by
  obtain ⟨hx, hz, hy⟩ := Glow.dec_lt hi
  have hXZ : X * Z ≤ 65536 := Nat.mul_le_mul hX.2 hZ.2
  have hcXZ : ((X * Z : Nat) : Int) = (X : Int) * Z := Int.natCast_mul _ _
  have b0 : i / X ≤ i := Nat.div_le_self _ _
  have b1 : i / X / Z ≤ i / X := Nat.div_le_self _ _
  have em : ((i % X : Nat) : Int) = (i : Int) % X := Int.natCast_emod _ _
  have ed : ((i / X : Nat) : Int) = (i : Int) / X := Int.natCast_ediv _ _
  have ez : ((i / X % Z : Nat) : Int) = (i : Int) / X % Z := by rw [← ed]; exact Int.natCast_emod _ _
  have ey : ((i / X / Z : Nat) : Int) = (i : Int) / X / Z := by rw [← ed]; exact Int.natCast_ediv _ _
  have hi2 : i = (i / X / Z * Z + i / X % Z) * X + i % X := (Glow.enc_eq X Z i).symm
  have g1 : 0 < i / X % Z → X ≤ i := fun h => by
    have h1 : 1 * X ≤ (i / X / Z * Z + i / X % Z) * X := Nat.mul_le_mul_right _ (by omega)
    omega
  have g2 : 0 < i / X / Z → X * Z ≤ i := fun h => by
    have h0 : 1 * Z ≤ i / X / Z * Z := Nat.mul_le_mul_right _ h
    have h1 : Z * X ≤ (i / X / Z * Z + i / X % Z) * X := Nat.mul_le_mul_right _ (by omega)
    have h2 : Z * X = X * Z := Nat.mul_comm _ _
    omega
  have hm : IntKind.i64.wrap ((X : Int) * Z) = (X : Int) * Z := IntWalk.i64_in _ (by rw [← hcXZ]; omega)
  refine callsIn_of_wp Try.func19 rfl trivial ?_
  show C19.wpIn _ _ _ _ _ _
  rw [C19_eq]
  refine wpIn_seq ?_
  refine s0 n W X Y Z i cv _ _ ⟨by simp [Try.ntmps19], rfl, by simp [Try.ntmps19], rfl⟩ ?_
  intro a1 h1
  have hbx := World.alloc_heap_new W (.cells #[.int .i64 X, .int .i64 Y, .int .i64 Z, cv] 24)
  have hb0 : Below W.heap.size W (W.alloc (.cells #[.int .i64 X, .int .i64 Y, .int .i64 Z, cv] 24)) := (Below.refl _ _).alloc (Nat.le_refl _) _
  generalize W.alloc (.cells #[.int .i64 X, .int .i64 Y, .int .i64 Z, cv] 24) = W1 at h1 hbx hb0 ⊢
  have hG : G19 W W.heap.size X Y Z cv (.slice none 0 0) [] W1 := ⟨hb0, Nat.le_refl _, hbx, World.ownsRow_nil _ _ _ _⟩
  refine wpIn_seq (s1 n (G19.stable W W.heap.size X Y Z cv (.slice none 0 0) []) W.heap.size X Z i (by omega) (by omega) (by rw [← ed]; exact Int.natCast_nonneg _) (by rw [← ed]; exact Int.ofNat_le.2 (show i / X ≤ 262144 by omega)) (by rw [← ey]; exact Int.natCast_nonneg _) (by rw [← ey]; exact Int.ofNat_le.2 (show i / X / Z ≤ 262144 by omega))
    (fun w h => h.cell rfl) (fun w h => h.cell rfl) _ a1 W1 (h1.sg hG) ?_)
  intro a2 w2 h2
  rw [← em, ← ez, ← ey] at h2
  have hw2 := h2.wp
  refine wpIn_seq (s2 n w2 W.heap.size i (i % X) (i / X % Z) (i / X / Z) _ a2 h2.sr ?_)
  intro a3 h3
  have hX1 : X * Z ≤ 65536 := hXZ
  have l1 := ite_len (0 < i % X) (i - 1)
  have l2 := ite_len (i % X + 1 < X) (i + 1)
  have l3 := ite_len (0 < i / X % Z) (i - X)
  have l4 := ite_len (i / X % Z + 1 < Z) (i + X)
  have l5 := ite_len (0 < i / X / Z) (i - X * Z)
  refine wpIn_seq (t1 n i (i % X) (i / X % Z) (i / X / Z) (by simp) (fun h => by rw [IntWalk.i64_in _ (by omega)]; omega) _ a3 w2 (h3.sg hw2) ?_)
  intro q1 a4 w4 h4
  refine wpIn_seq (t2 n i (i % X) (i / X % Z) (i / X / Z) (by simp; omega) (by omega) (fun h => by rw [IntWalk.i64_in _ (by omega)]; omega) _ a4 w4 h4 ?_)
  intro q2 a5 w5 h5
  refine wpIn_seq (t3 n i (i % X) (i / X % Z) (i / X / Z) (by simp only [List.length_append, List.length_nil]; omega) (fun h => by have := g1 h; rw [IntWalk.i64_in _ (by omega)]; omega) _ a5 w5 h5 ?_)
  intro q3 a6 w6 h6
  refine wpIn_seq (t4 n i (i % X) (i / X % Z) (i / X / Z) (by simp only [List.length_append, List.length_nil]; omega) (by omega) (fun h => by rw [IntWalk.i64_in _ (by omega)]; omega) _ a6 w6 h6 ?_)
  intro q4 a7 w7 h7
  refine wpIn_seq (t5 n i (i % X) (i / X % Z) (i / X / Z) hm (by simp only [List.length_append, List.length_nil]; omega) (fun h => by have := g2 h; rw [← hcXZ, IntWalk.i64_in _ (by omega)]; omega) _ a7 w7 h7 ?_)
  intro q5 a8 w8 h8
  refine wpIn_seq (t6 n i (i % X) (i / X % Z) (i / X / Z) hm (by simp only [List.length_append, List.length_nil]; omega) (by omega) (fun h => by rw [← hcXZ, IntWalk.i64_in _ (by omega)]; omega) _ a8 w8 h8 ?_)
  intro q6 a9 w9 h9
  have hw9 := h9.wp
  refine wpIn_seq (s15 n w9 q6 _ a9 (h9.sr.sub (by simp)) ?_)
  intro a10 h10
  exact wpIn_ret ⟨h10.defers, _, results_tmp (t := 4) rfl _ _ _, q6, by rw [Array.getD_eq_getD_getElem?, h10.kn (4, q6) (by simp)], hw9.bel, hw9.own⟩
end Go.Proofs.Ytmgiabehooghcaa
/-! from zq -/
namespace Go.Proofs.Ytmgiabehooghcaa
open Go.RowKit Go.Shelf
attribute [local go_sem] Oper.semAt_some

/-! ### The box that a law is given -/
theorem pair_sky (A B : List Nat) {N i : Nat} (h : i < N) : (pairsV A B N N)[i * 2]? = some (.int .u8 (A.getD i 0 : Nat)) := by
  rw [pairsV_get _ _ _ _ _ (by omega)]; unfold prow
  rw [if_pos (by omega), if_pos (by omega), show i * 2 / 2 = i from by omega]
theorem pair_lamp (A B : List Nat) {N i : Nat} (h : i < N) : (pairsV A B N N)[i * 2 + 1]? = some (.int .u8 (B.getD i 0 : Nat)) := by
  rw [pairsV_get _ _ _ _ _ (by omega)]; unfold prow
  rw [if_pos (by omega), if_neg (by omega), show (i * 2 + 1) / 2 = i from by omega]
def kd (A : Nat → Int) (s : Nat) : Nat := (A (s * 2)).toNat
def lv (A : Nat → Int) (s : Nat) : Nat := (A (s * 2 + 1)).toNat
def clA (A : Nat → Int) (s : Nat) : Bool := K.may (kd A s : Nat) (lv A s : Nat) && K.clear (kd A s : Nat)
def lmA (A : Nat → Int) (s : Nat) : Nat := (K.lamp (kd A s : Nat) (lv A s : Nat)).toNat
theorem lmA_le (A : Nat → Int) (s : Nat) : lmA A s ≤ 15 := by have := lamp_le (kd A s) (lv A s); unfold lmA; omega
theorem lmA_eq (A : Nat → Int) (s : Nat) : ((lmA A s : Nat) : Int) = K.lamp (kd A s : Nat) (lv A s : Nat) := by have := lamp_le (kd A s) (lv A s); unfold lmA; omega
/-- Cells of a row of pairs of numbers. -/
structure Row2 (W : World) (g off N : Nat) (A : Nat → Int) : Prop where
  lt : g < W.heap.size
  cell : ∀ j, j < N * 2 → W.cell? ⟨g, off + j, none⟩ = some (.int .u8 (A j))
  rng : ∀ j, j < N * 2 → 0 ≤ A j ∧ A j ≤ 255
section
variable {W0 W w w' : World} {bs : List (Nat × Obj)} {X Y Z N g off cap : Nat} {A : Nat → Int}
theorem Row2.kind (h : Row2 W g off N A) {s : Nat} (hs : s < N) : W.cell? ⟨g, off + s * 2, none⟩ = some (.int .u8 (kd A s)) := by
  have := h.rng (s * 2) (by omega)
  rw [h.cell _ (by omega)]; unfold kd; rw [Int.toNat_of_nonneg this.1]
theorem Row2.level (h : Row2 W g off N A) {s : Nat} (hs : s < N) : W.cell? ⟨g, off + s * 2 + 1, none⟩ = some (.int .u8 (lv A s)) := by
  have := h.rng (s * 2 + 1) (by omega)
  rw [Nat.add_assoc, h.cell _ (by omega)]; unfold lv; rw [Int.toNat_of_nonneg this.1]
theorem Row2.kdle (h : Row2 W g off N A) {s : Nat} (hs : s < N) : kd A s ≤ 255 ∧ lv A s ≤ 255 := by
  have h1 := h.rng (s * 2) (by omega)
  have h2 := h.rng (s * 2 + 1) (by omega)
  unfold kd lv; omega
theorem Row2.below (h : Row2 w g off N A) (hb : Below w.heap.size w w') : Row2 w' g off N A := ⟨Nat.lt_of_lt_of_le h.lt hb.size, fun j hj => (hb.cell (p := ⟨g, off + j, none⟩) h.lt).trans (h.cell j hj), h.rng⟩
theorem Row2.old (h : Row2 W0 g off N A) (hh : Has W0 bs w) : Row2 w g off N A := ⟨Nat.lt_of_lt_of_le h.lt hh.bel.size, fun j hj => hh.old h.lt (h.cell j hj), h.rng⟩
theorem Row2.cells (h : Row2 W g off N A) (hN : N ≤ 262144) : Cells W (fun _ => False) N g off (kd A) (lv A) (clA A) :=
  ⟨hN, h.lt, fun h => h, fun _ hs => h.kind hs, fun _ hs => h.level hs, fun s hs W m => by have := h.kdle hs; exact clear_in m (kd A s) (lv A s) this.1 this.2 W⟩
theorem Row2.open_ (h : Row2 W g off N A) {s : Nat} (hs : s < N) (m : Nat) (w : World) : CallsIn Fence.wide m Try.prog 17 #[.agg #[.int .u8 (kd A s), .int .u8 (lv A s)]] w fun e w' => e = .returned (.bool (clA A s)) ∧ Below w.heap.size w w' := by
  have := h.kdle hs; exact open_in m (kd A s) (lv A s) this.1 this.2 w
theorem Row2.lamp (h : Row2 W g off N A) {s : Nat} (hs : s < N) (m : Nat) (w : World) : CallsIn Fence.wide m Try.prog 18 #[.agg #[.int .u8 (kd A s), .int .u8 (lv A s)]] w fun e w' => e = .returned (.int .u8 (lmA A s)) ∧ Below w.heap.size w w' := by
  have := h.kdle hs; rw [lmA_eq]; exact lamp_in m (kd A s) (lv A s) this.1 this.2 w
/-- Light of a good box, where these blocks are new. -/
theorem light_has (n : Nat) (h : Row2 w g off N A) (hX : 1 ≤ X ∧ X ≤ 256) (hY : 1 ≤ Y ∧ Y ≤ 256) (hZ : 1 ≤ Z ∧ Z ≤ 256) (hNe : N = X * Y * Z) (hN : N ≤ 262144) (hh : Has W0 bs w) :
    CallsIn Fence.wide n Try.prog 14 #[.agg #[.int .i64 X, .int .i64 Y, .int .i64 Z, .slice (some ⟨g, off, none⟩) N cap]] w fun e w' => ∃ r, e = .returned (.tuple #[.slice (some ⟨r, 0, none⟩) N N, .int .i64 0]) ∧
      Has W0 ((r, .cells (pairsV (skyL X Y Z (clA A)) (lampL X Y Z (clA A) (lmA A)) N N) 37 (0, 0)) :: bs) w' := by
  refine (light_in n (h.cells hN) (lmA A) (fun s hs => ⟨lmA_le A s, fun m W => h.lamp hs m W⟩) hX hY hZ hNe).mono ?_
  rintro e w' ⟨r, rfl, h1, h2, h3⟩
  exact ⟨r, rfl, hh.add h3 h1 h2⟩
/-- The argument of a law that may be. -/
structure Arg (W0 : World) (X Y Z N g off : Nat) (A : Nat → Int) : Prop where
  x : 1 ≤ X ∧ X ≤ 256
  y : 1 ≤ Y ∧ Y ≤ 256
  z : 1 ≤ Z ∧ Z ≤ 256
  n : N = X * Y * Z
  le : N ≤ 262144
  row : Row2 W0 g off N A
theorem okS_iff {n : Int} : okS n = true ↔ 1 ≤ n ∧ n ≤ 256 := by unfold okS; simp
theorem chk_zero {X Y Z : Int} {len : Nat} (h : chk X Y Z len = 0) : (1 ≤ X ∧ X ≤ 256) ∧ (1 ≤ Y ∧ Y ≤ 256) ∧ (1 ≤ Z ∧ Z ≤ 256) ∧ X * Y * Z = (len : Int) ∧ len ≤ 262144 := by
  unfold chk at h
  split at h
  · rename_i h1
    simp only [Bool.and_eq_true] at h1
    obtain ⟨h1, h2, h3⟩ := h1
    split at h
    · cases h
    · split at h
      · rename_i h4 h5
        exact ⟨okS_iff.1 h1, okS_iff.1 h2, okS_iff.1 h3, h5, by omega⟩
      · cases h
  · cases h
theorem arg_of {M : Nat} {X Y Z : Int} {o : Option Addr} {len c : Nat} (hs : Sx.SlIn W0 [.u8, .u8] M (.slice o len c)) (h : chk X Y Z len = 0) :
    ∃ (x y z g off : Nat) (A : Nat → Int), X = x ∧ Y = y ∧ Z = z ∧ o = some ⟨g, off, none⟩ ∧ Arg W0 x y z len g off A := by
  obtain ⟨h1, h2, h3, h4, h5⟩ := chk_zero h
  obtain ⟨x, rfl⟩ : ∃ x : Nat, X = x := ⟨X.toNat, by omega⟩
  obtain ⟨y, rfl⟩ : ∃ y : Nat, Y = y := ⟨Y.toNat, by omega⟩
  obtain ⟨z, rfl⟩ : ∃ z : Nat, Z = z := ⟨Z.toNat, by omega⟩
  have h6 : len = x * y * z := by
    have : ((x * y * z : Nat) : Int) = (len : Int) := by rw [Int.natCast_mul, Int.natCast_mul]; exact h4
    omega
  have h7 : 1 ≤ x * y * z := Nat.mul_le_mul (Nat.mul_le_mul (show 1 ≤ x by omega) (show 1 ≤ y by omega)) (show 1 ≤ z by omega)
  cases hs with
  | nil => omega
  | empty => omega
  | row g off len cap A h0 hc hl hA hr =>
    obtain ⟨cs, t, fr, k1, k2, k3⟩ := hr.blk
    refine ⟨x, y, z, g, off, A, rfl, rfl, rfl, rfl, by omega, by omega, by omega, h6, h5, (Array.getElem?_eq_some_iff.1 k1).1, fun j hj => ?_, fun j hj => ?_⟩
    · have := k3 j hj
      simp only [World.cell?, k1, this]
      have : j % 2 = 0 ∨ j % 2 = 1 := by omega
      rcases this with e | e <;> simp [e]
    · have := hA j
      have e : j % 2 = 0 ∨ j % 2 = 1 := by omega
      simp only [List.length_cons, List.length_nil] at this
      rcases e with e | e <;> simp [e, IntKind.min, IntKind.max, IntKind.signed, IntKind.bits] at this <;> omega
theorem works_has (n : Nat) (m : Nat) (w : World) : CallsIn Fence.wide m Try.prog 13 #[] w fun e w' => e = .returned (.bool true) ∧ Below w.heap.size w w' := works_in m w
end
/-! ### The light that the laws speak of -/
section
variable {X Y Z N : Nat} {cl : Nat → Bool} {lm : Nat → Nat}
theorem sky_fix (hX : X * Y * Z = N) : (∀ i, (skyL X Y Z cl).getD i 0 ≤ 15) ∧ Glow.Fix (Glow.sides X Y Z) cl (skyS cl (X * Z) Y) N fun i => (skyL X Y Z cl).getD i 0 := by
  subst hX
  exact skyL_fix (by rw [Nat.mul_comm X Y, Nat.mul_assoc])
theorem lamp_fix (hX : X * Y * Z = N) (hlm : ∀ i, lm i ≤ 15) : (∀ i, (lampL X Y Z cl lm).getD i 0 ≤ 15) ∧ Glow.Fix (Glow.sides X Y Z) cl lm N fun i => (lampL X Y Z cl lm).getD i 0 := by
  subst hX
  exact lampL_fix lm (fun i _ => hlm i)
end
theorem Glow.Fix.dark {sd : Nat → List Nat} {cl : Nat → Bool} {src V : Nat → Nat} {n : Nat} (h : Glow.Fix sd cl src n V) {i : Nat} (hi : i < n) (hc : cl i = false) : V i = 0 := by
  rw [h i hi, hc]; rfl
theorem Glow.Fix.near {sd : Nat → List Nat} {cl : Nat → Bool} {src V : Nat → Nat} {n : Nat} (h : Glow.Fix sd cl src n V) {i s : Nat} (hi : i < n) (hc : cl i = true) (hs : s ∈ sd i) : V s ≤ V i + 1 := by
  have h1 := h i hi
  rw [if_pos hc] at h1
  have := Glow.le_up (V := V) hs
  omega
end Go.Proofs.Ytmgiabehooghcaa
/-! from zr -/
namespace Go.Proofs.Ytmgiabehooghcaa
open Go.RowKit Go.Shelf
attribute [local go_sem] Oper.semAt_some

theorem Stable.and {G H : World → Prop} (hG : Stable G) (hH : Stable H) : Stable fun w => G w ∧ H w := fun w w' h hb => ⟨hG w w' h.1 hb, hH w w' h.2 hb⟩
theorem ownsRow_below {w w' : World} {b e size n : Nat} {v : Value} {xs : List Value} (h : w.ownsRow b e size v n xs) (hb : Below w.heap.size w w') : w'.ownsRow b e size v n xs := by
  obtain ⟨h1, h2⟩ := h
  refine ⟨h1, h2.imp id ?_⟩
  rintro ⟨g, cap, cur, e1, e2, e3, e4⟩
  exact ⟨g, cap, cur, e1, e2, (hb.block g (Array.getElem?_eq_some_iff.1 e3).1).trans e3, e4⟩
theorem ownsRow_stable {b e size n : Nat} {v : Value} {xs : List Value} : Stable fun w => w.ownsRow b e size v n xs := fun _ _ h hb => ownsRow_below h hb
theorem ownsRow_shape {w : World} {b e size n : Nat} {v : Value} {xs : List Value} (h : w.ownsRow b e size v n xs) : ∃ qp qc, v = .slice qp n qc ∧ (0 < n → ∃ nb, qp = some ⟨nb, 0, none⟩) := by
  rcases h.2 with ⟨rfl, rfl⟩ | ⟨g, cap, _, rfl, _⟩
  · exact ⟨none, 0, rfl, fun h => absurd h (Nat.lt_irrefl _)⟩
  · exact ⟨_, _, rfl, fun _ => ⟨g, rfl⟩⟩
theorem ownsRow_cell {w : World} {b e n nb qc : Nat} {l : List Nat} (h : w.ownsRow b e 1 (.slice (some ⟨nb, 0, none⟩) n qc) n (intsV l)) {j s : Nat} (hs : l[j]? = some s) : w.cell? ⟨nb, j, none⟩ = some (.int .i64 s) := by
  obtain ⟨h1, h2⟩ := h
  rcases h2 with ⟨h2, _⟩ | ⟨g, cap, cur, e1, _, e3, _, _, _, e4⟩
  · cases h2
  · injection e1 with e1 _ _
    injection e1 with e1
    injection e1 with e1 _ _
    subst e1
    have hj : j < l.length := (List.getElem?_eq_some_iff.1 hs).1
    have : (cur.toList.take (n * 1))[j]? = some (.int .i64 s) := by rw [e4]; simp [intsV, hs]
    rw [List.getElem?_take] at this
    split at this
    · simp only [World.cell?, e3]; simpa using this
    · cases this
theorem SG.slot {kn : List (Nat × Value)} {sz : Nat} {G : World → Prop} {a : Act} {w : World} (h : SG kn sz G a w) {t : Nat} {v : Nat} {k : IntKind} (hp : (t, .int k v) ∈ kn) : slotN t a = v := slotN_of h.sr hp
theorem ownsRow_mono {w : World} {b b' e size n : Nat} {v : Value} {xs : List Value} (h : w.ownsRow b e size v n xs) (hb : b' ≤ b) : w.ownsRow b' e size v n xs := by
  obtain ⟨h1, h2⟩ := h
  refine ⟨h1, h2.imp id ?_⟩
  rintro ⟨g, cap, cur, e1, e2, e3, e4⟩
  exact ⟨g, cap, cur, e1, Nat.le_trans hb e2, e3, e4⟩
section
variable {W0 : World} {X Y Z N g off cap r B : Nat} {A : Nat → Int}
abbrev bs5 (X Y Z N g off cap r B : Nat) (A : Nat → Int) : List (Nat × Obj) := [(r, .cells (pairsV (skyL X Y Z (clA A)) (lampL X Y Z (clA A) (lmA A)) N N) 37 (0, 0)), (B, .cells #[.int .i64 X, .int .i64 Y, .int .i64 Z, .slice (some ⟨g, off, none⟩) N cap] 24 (0, 0))]
theorem lights5 {bs : List (Nat × Obj)} (hm : ∀ p ∈ bs5 X Y Z N g off cap r B A, p ∈ bs) {w : World} (hh : Has W0 bs w) {k : Nat} {v : Value} (hv : (pairsV (skyL X Y Z (clA A)) (lampL X Y Z (clA A) (lmA A)) N N)[k]? = some v) : w.cell? ⟨r, k, none⟩ = some v := hh.cell (t := 37) (fr := (0, 0)) (hm _ (by simp)) hv
theorem boxs5 {bs : List (Nat × Obj)} (hm : ∀ p ∈ bs5 X Y Z N g off cap r B A, p ∈ bs) {w : World} (hh : Has W0 bs w) {k : Nat} {v : Value} (hv : (#[.int .i64 X, .int .i64 Y, .int .i64 Z, .slice (some ⟨g, off, none⟩) N cap] : Array Value)[k]? = some v) : w.cell? ⟨B, k, none⟩ = some v := hh.cell (t := 24) (fr := (0, 0)) (hm _ (by simp)) hv
end
abbrev A5 (B r N i : Nat) : List (Nat × Value) := [(1, .pointer (some ⟨B, 0, none⟩)), (3, .slice (some ⟨r, 0, none⟩) N N), (5, .int .i64 i)]
theorem foldmax_eq (f : Nat → Nat) {l l' : List Nat} (h : ∀ s, s ∈ l ↔ s ∈ l') (a : Nat) : l.foldl (fun m s => max m (f s)) a = max a (l'.foldl (fun m s => max m (f s)) 0) := by
  have h1 := Glow.foldmax_ge f l a
  have h2 := Glow.foldmax_ge f l' 0
  refine Nat.le_antisymm ?_ ?_
  · rcases Glow.foldmax_of f l a with e | ⟨s, hs, e⟩
    · rw [e]; exact Nat.le_max_left _ _
    · rw [e]; exact Nat.le_trans (h2.2 s ((h s).1 hs)) (Nat.le_max_right _ _)
  · refine Nat.max_le.2 ⟨h1.1, ?_⟩
    rcases Glow.foldmax_of f l' 0 with e | ⟨s, hs, e⟩
    · rw [e]; exact Nat.zero_le _
    · rw [e]; exact h1.2 s ((h s).2 hs)
/-- All above is clear. -/
theorem skyS_iff {cl : Nat → Bool} {X Y Z N i : Nat} (hN : X * Y * Z = N) (hX : 1 ≤ X) (hZ : 1 ≤ Z) (hi : i < N) : (∀ m, i + m * (X * Z) < N → cl (i + m * (X * Z)) = true) ↔ i ∈ skyF cl (X * Z) Y (X * Z) := by
  have hl : 0 < X * Z := Nat.mul_pos hX hZ
  have hN' : N = Y * (X * Z) := by rw [← hN, Nat.mul_comm X Y, Nat.mul_assoc]
  rw [skyF_mem]
  constructor
  · intro h
    refine ⟨i % (X * Z), i / (X * Z), Nat.mod_lt _ hl, Nat.div_lt_of_lt_mul (by rw [Nat.mul_comm, ← hN']; exact hi), by rw [Nat.mul_comm]; exact (Nat.div_add_mod i (X * Z)).symm, fun y' h1 h2 => ?_⟩
    have e : y' * (X * Z) + i % (X * Z) = i + (y' - i / (X * Z)) * (X * Z) := by
      have h3 := Nat.div_add_mod i (X * Z)
      have h4 : y' * (X * Z) = i / (X * Z) * (X * Z) + (y' - i / (X * Z)) * (X * Z) := by rw [← Nat.add_mul]; congr 1; omega
      have h5 : X * Z * (i / (X * Z)) = i / (X * Z) * (X * Z) := Nat.mul_comm _ _
      omega
    rw [e]
    refine h _ ?_
    rw [← e, hN']
    have h6 := Nat.mod_lt i hl
    have h7 : (y' + 1) * (X * Z) ≤ Y * (X * Z) := Nat.mul_le_mul_right _ h2
    rw [Nat.add_mul] at h7; omega
  · rintro ⟨k, y, hk, hy, rfl, hc⟩ m hm
    have e : y * (X * Z) + k + m * (X * Z) = (y + m) * (X * Z) + k := by rw [Nat.add_mul]; omega
    rw [e]
    refine hc _ (by omega) ?_
    rw [e, hN'] at hm
    exact Nat.lt_of_mul_lt_mul_right (Nat.lt_of_le_of_lt (Nat.le_add_right _ _) hm)
theorem Has.swap {W0 w : World} {p q : Nat × Obj} {bs : List (Nat × Obj)} (h : Has W0 (p :: q :: bs) w) : Has W0 (q :: p :: bs) w := h.perm (List.Perm.swap _ _ _)
end Go.Proofs.Ytmgiabehooghcaa
