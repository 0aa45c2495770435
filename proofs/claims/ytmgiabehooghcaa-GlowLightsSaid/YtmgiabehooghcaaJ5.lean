/- Glow, by hand: part H5. -/
import Derived.RangeFuncNested
import Derived.RangeFuncBound
import Derived.RangeFuncCalls
import Derived.RangeFuncLeaves
import Derived.Shelf.Abstract
import Derived.Shelf.RegionOpen
import Derived.WalkKit
import Derived.OwnWalkIn
import Derived.TacticsInMore
import Derived.LoopNIn
import Derived.LoopIn
import Derived.Lib.Hide
import Derived.IntWalk
import Derived.Maps.AppendAt
import Derived.Test.YtmgiabehooghcaaKc
import Derived.Test.YtmgiabehooghcaaGin
import Derived.Test.YtmgiabehooghcaaJ4
set_option linter.unusedVariables false
set_option linter.unusedSimpArgs false
set_option maxRecDepth 100000
set_option maxHeartbeats 4000000
namespace Go.Proofs.Ytmgiabehooghcaa
open Go.RowKit Go.Shelf
attribute [local go_sem] Oper.semAt_some

theorem spreadF_len (sd : Nat → List Nat) (cl : Nat → Bool) (L : Nat → List Nat) : ∀ (l : Nat) (out cur : List Nat), (Glow.spreadF sd cl L l out cur).length = out.length
  | 0, out, cur => rfl
  | l + 1, out, cur => by
    unfold Glow.spreadF
    rw [spreadF_len sd cl L l]
    have key : ∀ (c : List Nat) (p : List Nat × List Nat), (c.foldl (Glow.stepF sd cl (l + 1)) p).1.length = p.1.length := by
      intro c
      induction c with
      | nil => intro p; rfl
      | cons x c ih =>
        intro p
        rw [List.foldl_cons, ih]
        unfold Glow.stepF
        split <;> simp
    exact key cur _
theorem skyL_len {X Y Z N : Nat} {cl : Nat → Bool} (hNe : N = X * Y * Z) (_ : N = Y * (X * Z)) : (skyL X Y Z cl).length = N := by unfold skyL; rw [spreadF_len, List.length_replicate, hNe]
theorem lampL_len {X Y Z N : Nat} {cl : Nat → Bool} (hNe : N = X * Y * Z) (lm : Nat → Nat) : (lampL X Y Z cl lm).length = N := by unfold lampL; rw [spreadF_len, List.length_replicate, hNe]
theorem nil16 : ∀ m, m < 16 → (#[.slice none 0 0, .slice none 0 0, .slice none 0 0, .slice none 0 0, .slice none 0 0, .slice none 0 0, .slice none 0 0, .slice none 0 0, .slice none 0 0, .slice none 0 0, .slice none 0 0, .slice none 0 0, .slice none 0 0, .slice none 0 0, .slice none 0 0, .slice none 0 0] : Array Value)[m]? = some (.slice none 0 0)
  | 0, _ => rfl
  | 1, _ => rfl
  | 2, _ => rfl
  | 3, _ => rfl
  | 4, _ => rfl
  | 5, _ => rfl
  | 6, _ => rfl
  | 7, _ => rfl
  | 8, _ => rfl
  | 9, _ => rfl
  | 10, _ => rfl
  | 11, _ => rfl
  | 12, _ => rfl
  | 13, _ => rfl
  | 14, _ => rfl
  | 15, _ => rfl
  | m + 16, h => by omega
theorem lists_nil {W : World} {lB : Nat} (h : W.heap[lB]? = some (.cells #[.slice none 0 0, .slice none 0 0, .slice none 0 0, .slice none 0 0, .slice none 0 0, .slice none 0 0, .slice none 0 0, .slice none 0 0, .slice none 0 0, .slice none 0 0, .slice none 0 0, .slice none 0 0, .slice none 0 0, .slice none 0 0, .slice none 0 0, .slice none 0 0] 53 (0, 0))) : Lists W lB (fun _ => .slice none 0 0) (fun _ => []) :=
  ⟨⟨_, h, rfl, nil16⟩, fun m _ => ⟨rfl, .inl ⟨rfl, rfl⟩⟩, fun m m' _ _ _ g hg => by simp [Value.ownBlock] at hg⟩
section
variable {w0 : World} {X Y Z N g off cap : Nat} {K V : Nat → Nat} {cl : Nat → Bool}
theorem light_in (n : Nat) (hc : Cells w0 (fun _ => False) N g off K V cl) (lm : Nat → Nat) (hlm : ∀ s, s < N → lm s ≤ 15 ∧ ∀ m W, CallsIn Fence.wide m Try.prog 18 #[.agg #[.int .u8 (K s), .int .u8 (V s)]] W fun e w' => e = .returned (.int .u8 (lm s)) ∧ Below W.heap.size W w')
    (hX : 1 ≤ X ∧ X ≤ 256) (hY : 1 ≤ Y ∧ Y ≤ 256) (hZ : 1 ≤ Z ∧ Z ≤ 256) (hNe : N = X * Y * Z) :
    CallsIn Fence.wide n Try.prog 14 #[.agg #[.int .i64 X, .int .i64 Y, .int .i64 Z, .slice (some ⟨g, off, none⟩) N cap]] w0 fun e w' => ∃ r3, e = .returned (.tuple #[.slice (some ⟨r3, 0, none⟩) N N, .int .i64 0]) ∧ w0.heap.size ≤ r3 ∧
      w'.heap[r3]? = some (.cells (pairsV (skyL X Y Z cl) (lampL X Y Z cl lm) N N) 37 (0, 0)) ∧ Below w0.heap.size w0 w' := by
  have hN := hc.n
  have hYl : N = Y * (X * Z) := by rw [hNe, Nat.mul_comm X Y, Nat.mul_assoc]
  have hXZ : X * Z ≤ 65536 := Nat.mul_le_mul hX.2 hZ.2
  have hcXZ : ((X * Z : Nat) : Int) = (X : Int) * Z := Int.natCast_mul _ _
  refine callsIn_of_wp Try.func14 rfl trivial ?_
  show C14.wpIn _ _ _ _ _ _
  rw [C14_eq]
  refine wpIn_seq ?_
  refine l0 n w0 X Y Z (.slice (some ⟨g, off, none⟩) N cap) _ _ ⟨by simp [Try.ntmps14], rfl, by simp [Try.ntmps14], rfl⟩ ?_
  intro a1 h1
  have hbx := World.alloc_heap_new w0 (.cells #[.int .i64 X, .int .i64 Y, .int .i64 Z, .slice (some ⟨g, off, none⟩) N cap] 24)
  have hb0 : Below w0.heap.size w0 (w0.alloc (.cells #[.int .i64 X, .int .i64 Y, .int .i64 Z, .slice (some ⟨g, off, none⟩) N cap] 24)) := (Below.refl _ _).alloc (Nat.le_refl _) _
  have hz0 : w0.heap.size < (w0.alloc (.cells #[.int .i64 X, .int .i64 Y, .int .i64 Z, .slice (some ⟨g, off, none⟩) N cap] 24)).heap.size := by simp
  generalize w0.alloc (.cells #[.int .i64 X, .int .i64 Y, .int .i64 Z, .slice (some ⟨g, off, none⟩) N cap] 24) = W1 at h1 hbx hb0 hz0 ⊢
  have cB : ∀ j, W1.cell? ⟨w0.heap.size, j, none⟩ = (#[Value.int .i64 X, .int .i64 Y, .int .i64 Z, .slice (some ⟨g, off, none⟩) N cap] : Array Value)[j]? := fun j => by simp [World.cell?, hbx]
  have hchk : chk (X : Int) Y Z N = 0 := by
    unfold chk okS
    have e1 : (X : Int) * Y * Z = (N : Int) := by rw [hNe, Int.natCast_mul, Int.natCast_mul]
    rw [e1]
    simp
    omega
  refine wpIn_seq (wpIn_seq ?_)
  refine l1 n W1 w0.heap.size X Y Z 0 (.slice (some ⟨g, off, none⟩) N cap) (by rw [cB]; rfl) (by rw [cB]; rfl) (by rw [cB]; rfl) (by rw [cB]; rfl) hz0 (fun m W => by have := check_in m X Y Z (some ⟨g, off, none⟩) N cap W; rw [hchk] at this; exact this) _ a1 ⟨h1.size, h1.defers, h1.kn, rfl⟩ ?_
  intro a2 W2 hb2 h2
  refine wpIn_seq (l2 n W2 w0.heap.size 0 _ a2 h2 ?_)
  intro a3 h3
  refine wpIn_cond (t := false) (by rw [eval_tmp]; exact h3.kn (19, .bool ((0 : Int) != 0)) (by simp)) (wpIn_skip ?_)
  simp only [Exit.then]
  have hb2' := hb0.trans (hb2.mono hb0.size)
  have hbx2 := (hb2.block _ hz0).trans hbx
  refine wpIn_seq (l4 n W2 w0.heap.size _ a3 (h3.sub (by simp)) ?_)
  intro a4 h4
  have hz2 : w0.heap.size < W2.heap.size := Nat.lt_of_lt_of_le hz0 hb2.size
  have hL : Li w0 w0.heap.size W2.heap.size (W2.heap.size + 1) (X : Int) Y Z N g off cap (fun _ => .slice none 0 0) (fun _ => .slice none 0 0) (fun _ => []) (fun _ => []) ((W2.alloc (.cells #[.slice none 0 0, .slice none 0 0, .slice none 0 0, .slice none 0 0, .slice none 0 0, .slice none 0 0, .slice none 0 0, .slice none 0 0, .slice none 0 0, .slice none 0 0, .slice none 0 0, .slice none 0 0, .slice none 0 0, .slice none 0 0, .slice none 0 0, .slice none 0 0] 53)).alloc (.cells #[.slice none 0 0, .slice none 0 0, .slice none 0 0, .slice none 0 0, .slice none 0 0, .slice none 0 0, .slice none 0 0, .slice none 0 0, .slice none 0 0, .slice none 0 0, .slice none 0 0, .slice none 0 0, .slice none 0 0, .slice none 0 0, .slice none 0 0, .slice none 0 0] 53)) := by
    have hh : ∀ k, ((W2.alloc (.cells #[.slice none 0 0, .slice none 0 0, .slice none 0 0, .slice none 0 0, .slice none 0 0, .slice none 0 0, .slice none 0 0, .slice none 0 0, .slice none 0 0, .slice none 0 0, .slice none 0 0, .slice none 0 0, .slice none 0 0, .slice none 0 0, .slice none 0 0, .slice none 0 0] 53)).alloc (.cells #[.slice none 0 0, .slice none 0 0, .slice none 0 0, .slice none 0 0, .slice none 0 0, .slice none 0 0, .slice none 0 0, .slice none 0 0, .slice none 0 0, .slice none 0 0, .slice none 0 0, .slice none 0 0, .slice none 0 0, .slice none 0 0, .slice none 0 0, .slice none 0 0] 53)).heap[k]? = if k = W2.heap.size + 1 then some (.cells #[.slice none 0 0, .slice none 0 0, .slice none 0 0, .slice none 0 0, .slice none 0 0, .slice none 0 0, .slice none 0 0, .slice none 0 0, .slice none 0 0, .slice none 0 0, .slice none 0 0, .slice none 0 0, .slice none 0 0, .slice none 0 0, .slice none 0 0, .slice none 0 0] 53) else if k = W2.heap.size then some (.cells #[.slice none 0 0, .slice none 0 0, .slice none 0 0, .slice none 0 0, .slice none 0 0, .slice none 0 0, .slice none 0 0, .slice none 0 0, .slice none 0 0, .slice none 0 0, .slice none 0 0, .slice none 0 0, .slice none 0 0, .slice none 0 0, .slice none 0 0, .slice none 0 0] 53) else W2.heap[k]? := fun k => by
      rw [heap_alloc_if, heap_alloc_if]; simp
    refine { os := hb2'.os, tape := hb2'.tape, output := hb2'.output, size := by simp; omega, old := fun k hk => ?_, bx := ?_, sk := lists_nil ?_, lm := lists_nil ?_, cross := fun m m' _ _ k hk => by simp [Value.ownBlock] at hk, gs := fun m _ k hk => by simp [Value.ownBlock] at hk, gm := fun m _ k hk => by simp [Value.ownBlock] at hk, nb := Nat.le_refl _, ns := by omega, nm := by omega, ne := by omega }
    · rw [hh, if_neg (by omega), if_neg (by omega)]; exact hb2'.block k hk
    · rw [hh, if_neg (by omega), if_neg (by omega)]; exact hbx2
    · rw [hh, if_neg (by omega), if_pos rfl]
    · rw [hh, if_pos rfl]
  generalize (W2.alloc (.cells #[.slice none 0 0, .slice none 0 0, .slice none 0 0, .slice none 0 0, .slice none 0 0, .slice none 0 0, .slice none 0 0, .slice none 0 0, .slice none 0 0, .slice none 0 0, .slice none 0 0, .slice none 0 0, .slice none 0 0, .slice none 0 0, .slice none 0 0, .slice none 0 0] 53)).alloc (.cells #[.slice none 0 0, .slice none 0 0, .slice none 0 0, .slice none 0 0, .slice none 0 0, .slice none 0 0, .slice none 0 0, .slice none 0 0, .slice none 0 0, .slice none 0 0, .slice none 0 0, .slice none 0 0, .slice none 0 0, .slice none 0 0, .slice none 0 0, .slice none 0 0] 53) = W4 at h4 hL ⊢
  obtain ⟨cx, cy, cz, c3⟩ := hL.cell
  refine wpIn_seq (l5 n W4 w0.heap.size W2.heap.size (W2.heap.size + 1) X Z cx cz (wrap_in (by omega) (by omega)) _ a4 (h4.sub (by simp)) ?_)
  intro a5 h5
  rw [← hcXZ] at h5
  refine wpIn_seq (wpIn_seq (l6 n W4 w0.heap.size W2.heap.size (W2.heap.size + 1) (X * Z) _ a5 h5 ?_))
  intro a6 h6
  simp only [Exit.then]
  refine columns_in n hc (X * Z) hYl hY.1 hY.2 hXZ _ W4 hL a6 (h6.sub (by simp)) _ ?_
  intro a7 W7 sv h7 hL7
  simp only [Exit.then]
  obtain ⟨_, _, _, c37⟩ := hL7.cell
  refine wpIn_seq (wpIn_seq (l14 n W7 w0.heap.size W2.heap.size (W2.heap.size + 1) N g off cap c37 _ a7 h7 ?_))
  intro a8 h8
  simp only [Exit.then]
  refine lamps_in n hc lm hlm sv _ W7 hL7 a8 (h8.sub (by simp)) _ ?_
  intro a9 W9 mv h9 hL9
  simp only [Exit.then]
  refine wpIn_seq (l20 n W9 w0.heap.size W2.heap.size (W2.heap.size + 1) N X Y Z (.slice (some ⟨g, off, none⟩) N cap) sv mv
    (fun w => Li w0 w0.heap.size W2.heap.size (W2.heap.size + 1) (X : Int) Y Z N g off cap sv mv (upd (fun _ => []) 15 (skyF cl (X * Z) Y (X * Z))) (lampF cl lm N) w)
    (fun r w => Lg w0 w0.heap.size W2.heap.size (W2.heap.size + 1) (X : Int) Y Z N g off cap sv mv (lampF cl lm N) (skyL X Y Z cl) r w)
    (fun r s w => Lh w0 w0.heap.size (X : Int) Y Z N g off cap (skyL X Y Z cl) (lampL X Y Z cl lm) r s w) ?_ ?_ (hL9.below (Below.refl _ _).drew) ?_ ?_ _ a9 h9 ?_)
  · intro w h
    obtain ⟨k1, k2, k3, k4⟩ := h.cell
    exact ⟨k1, k2, k3, k4, fun j hj => h.sk.cell hj, fun j hj => h.lm.cell hj⟩
  · intro r w h
    obtain ⟨c, k1, k2⟩ := h.sk
    refine ⟨by simp [World.cell?, h.bx], by simp [World.cell?, h.bx], by simp [World.cell?, h.bx], by simp [World.cell?, h.bx], fun j hj => by simp [World.cell?, k1, k2 j hj], fun j hj => h.lm.cell hj⟩
  · intro m w h
    have := spread1 hc hNe hX.2 hY.2 hZ.2 (sky_ok hYl) m w h
    rw [hNe] at this ⊢
    exact this
  · intro m r w h
    have := spread2 hc hNe hX.2 hY.2 hZ.2 (lamp_ok lm) m r w h
    unfold lampL
    rw [← hNe]
    exact this
  intro a10 W10 r1 r2 hh h10
  refine wpIn_seq (l21 n W10 w0.heap.size N g off cap r1 r2 hN (by simp [World.cell?, hh.bx]) _ a10 h10 ?_)
  intro a11 h11
  have hlen : (skyL X Y Z cl).length = N ∧ (lampL X Y Z cl lm).length = N := ⟨skyL_len hNe hYl, lampL_len hNe lm⟩
  have hLd : Ld w0 r1 r2 W10.heap.size N (skyL X Y Z cl) (lampL X Y Z cl lm) 0 (W10.alloc (.cells (madeCells #[.int .u8 0, .int .u8 0] (N * 2)) 37)) :=
    ⟨hh.os, hh.tape, hh.output, by simp; have := hh.size; omega, fun k hk => (Below.heap_alloc _ _ _ (Nat.lt_of_lt_of_le hk hh.size)).trans (hh.old k hk), (Below.heap_alloc _ _ _ (Array.getElem?_eq_some_iff.1 hh.row).1).trans hh.row, (Below.heap_alloc _ _ _ (Array.getElem?_eq_some_iff.1 hh.row2).1).trans hh.row2, by rw [World.alloc_heap_new, made_pairs], hh.size⟩
  generalize W10.alloc (.cells (madeCells #[.int .u8 0, .int .u8 0] (N * 2)) 37) = W11 at h11 hLd ⊢
  refine wpIn_seq (wpIn_seq (l22 n W11 r1 r2 W10.heap.size N _ a11 h11 ?_))
  intro a12 h12
  simp only [Exit.then]
  refine pairs_in n hN hlen.1 hlen.2 W11 hLd a12 (h12.sub (by simp)) _ ?_
  intro a13 W13 h13 hL13
  simp only [Exit.then]
  refine wpIn_seq (l27 n W13 W10.heap.size N _ a13 h13 ?_)
  intro a14 h14
  have e2 := h14.kn (2, .slice (some ⟨W10.heap.size, 0, none⟩) N N) (by simp)
  have e3 := h14.kn (3, .int .i64 0) (by simp)
  refine wpIn_ret ⟨h14.defers, _, results_tmp2 (t := 2) (u := 3) rfl _ _ _, W10.heap.size, ?_, hL13.n3, hL13.h3, ⟨hL13.os, hL13.tape, hL13.output, hL13.size, fun k hk => hL13.old k hk⟩⟩
  rw [Array.getD_eq_getD_getElem?, Array.getD_eq_getD_getElem?, e2, e3]
end
end Go.Proofs.Ytmgiabehooghcaa
namespace Go.Proofs.Ytmgiabehooghcaa
open Go.RowKit Go.Shelf
attribute [local go_sem] Oper.semAt_some

section
variable {X Y Z N : Nat} {cl : Nat → Bool}
theorem skyF_mem {ly Y c i : Nat} : i ∈ skyF cl ly Y c ↔ ∃ k y, k < c ∧ y < Y ∧ i = y * ly + k ∧ ∀ y', y ≤ y' → y' < Y → cl (y' * ly + k) = true := by
  unfold skyF
  rw [List.mem_flatMap]
  constructor
  · rintro ⟨k, hk, h⟩
    obtain ⟨y, h1, h2, h3⟩ := colF_mem h
    exact ⟨k, y, by simpa using hk, h1, h2, h3⟩
  · rintro ⟨k, y, hk, h1, rfl, h3⟩
    exact ⟨k, by simpa using hk, colF_of h1 h3⟩
def skyS (cl : Nat → Bool) (ly Y i : Nat) : Nat := if i ∈ skyF cl ly Y ly then 15 else 0
theorem skyL_fix (hYl : X * Y * Z = Y * (X * Z)) : (∀ i, (skyL X Y Z cl).getD i 0 ≤ 15) ∧ Glow.Fix (Glow.sides X Y Z) cl (skyS cl (X * Z) Y) (X * Y * Z) fun i => (skyL X Y Z cl).getD i 0 := by
  refine (Glow.spreadF_fix (n := X * Y * Z) (fun i s hi h => Glow.sides_sym X Y Z i s hi h) ?_ (skyS cl (X * Z) Y) ?_).2
  · intro m i _ hi
    by_cases e : m = 15
    · subst e
      rw [upd_same] at hi
      obtain ⟨k, y, hk, hy, rfl, hc⟩ := skyF_mem.1 hi
      exact ⟨by rw [hYl]; exact idx_lt hy hk, hc y (Nat.le_refl _) hy⟩
    · rw [upd_ne _ _ e] at hi; cases hi
  · intro i _ _
    constructor
    · intro m h0 _ hi
      by_cases e : m = 15
      · subst e
        rw [upd_same] at hi
        unfold skyS; rw [if_pos hi]; exact Nat.le_refl _
      · rw [upd_ne _ _ e] at hi; cases hi
    · unfold skyS
      split
      · rename_i h; right; exact ⟨Nat.le_refl _, by rw [upd_same]; exact h⟩
      · exact .inl rfl
theorem lampL_fix (lm : Nat → Nat) (hlm : ∀ i, i < X * Y * Z → lm i ≤ 15) : (∀ i, (lampL X Y Z cl lm).getD i 0 ≤ 15) ∧ Glow.Fix (Glow.sides X Y Z) cl lm (X * Y * Z) fun i => (lampL X Y Z cl lm).getD i 0 := by
  have hm : ∀ m i, i ∈ lampF cl lm (X * Y * Z) m ↔ i < X * Y * Z ∧ cl i = true ∧ lm i = m := fun m i => by
    unfold lampF
    rw [List.mem_filter, List.mem_range, Bool.and_eq_true, beq_iff_eq]
  refine (Glow.spreadF_fix (n := X * Y * Z) (fun i s hi h => Glow.sides_sym X Y Z i s hi h) (fun m i _ hi => ?_) lm ?_).2
  · have := (hm m i).1 hi; exact ⟨this.1, this.2.1⟩
  · intro i hi hc
    exact ⟨fun m _ _ h => by rw [((hm m i).1 h).2.2]; exact Nat.le_refl _, .inr ⟨hlm i hi, (hm _ _).2 ⟨hi, hc, rfl⟩⟩⟩
end
end Go.Proofs.Ytmgiabehooghcaa
namespace Go.Proofs.Ytmgiabehooghcaa
open Go.RowKit Go.Shelf
attribute [local go_sem] Oper.semAt_some

theorem light_bad (n : Nat) (X Y Z : Int) (o : Option Addr) (len c : Nat) (W : World) (hbad : chk X Y Z len ≠ 0) : CallsIn Fence.wide n Try.prog 14 #[.agg #[.int .i64 X, .int .i64 Y, .int .i64 Z, .slice o len c]] W fun e w' =>
    e = .returned (.tuple #[.slice none 0 0, .int .i64 (chk X Y Z len)]) ∧ Below W.heap.size W w' := by
  refine callsIn_of_wp Try.func14 rfl trivial ?_
  show C14.wpIn _ _ _ _ _ _
  rw [C14_eq]
  refine wpIn_seq ?_
  refine l0 n W X Y Z (.slice o len c) _ _ ⟨by simp [Try.ntmps14], rfl, by simp [Try.ntmps14], rfl⟩ ?_
  intro a1 h1
  have hbx := World.alloc_heap_new W (.cells #[.int .i64 X, .int .i64 Y, .int .i64 Z, .slice o len c] 24)
  have hb0 : Below W.heap.size W (W.alloc (.cells #[.int .i64 X, .int .i64 Y, .int .i64 Z, .slice o len c] 24)) := (Below.refl _ _).alloc (Nat.le_refl _) _
  have hz0 : W.heap.size < (W.alloc (.cells #[.int .i64 X, .int .i64 Y, .int .i64 Z, .slice o len c] 24)).heap.size := by simp
  generalize W.alloc (.cells #[.int .i64 X, .int .i64 Y, .int .i64 Z, .slice o len c] 24) = W1 at h1 hbx hb0 hz0 ⊢
  have cB : ∀ j, W1.cell? ⟨W.heap.size, j, none⟩ = (#[Value.int .i64 X, .int .i64 Y, .int .i64 Z, .slice o len c] : Array Value)[j]? := fun j => by simp [World.cell?, hbx]
  refine wpIn_seq (wpIn_seq ?_)
  refine l1 n W1 W.heap.size X Y Z (chk X Y Z len) (.slice o len c) (by rw [cB]; rfl) (by rw [cB]; rfl) (by rw [cB]; rfl) (by rw [cB]; rfl) hz0 (fun m W => check_in m X Y Z o len c W) _ a1 ⟨h1.size, h1.defers, h1.kn, rfl⟩ ?_
  intro a2 W2 hb2 h2
  refine wpIn_seq (l2 n W2 W.heap.size (chk X Y Z len) _ a2 h2 ?_)
  intro a3 h3
  refine wpIn_cond (t := true) (by rw [eval_tmp, h3.kn (19, .bool (chk X Y Z len != 0)) (by simp)]; simp [hbad]) ?_
  refine wpIn_seq (l3 n W2 W.heap.size (chk X Y Z len) _ a3 (h3.sub (by simp +contextual)) ?_)
  intro a4 h4
  have e2 := h4.kn (2, .slice none 0 0) (by simp)
  have e3 := h4.kn (3, .int .i64 (chk X Y Z len)) (by simp)
  refine wpIn_ret ?_
  exact ⟨h4.defers, _, results_tmp2 (t := 2) (u := 3) rfl _ _ _, by rw [Array.getD_eq_getD_getElem?, Array.getD_eq_getD_getElem?, e2, e3], hb0.trans (hb2.mono hb0.size)⟩
noncomputable def C13 : Code := Try.f13.body.getD .skip
def wK (s : Nat) : Nat := if s = 1 then 2 else 0
def wcl (s : Nat) : Bool := K.may (wK s : Nat) (0 : Nat) && K.clear (wK s : Nat)
def wlm (s : Nat) : Nat := (K.lamp (wK s : Nat) (0 : Nat)).toNat
theorem works_pairs : pairsV (skyL 1 3 1 wcl) (lampL 1 3 1 wcl wlm) 3 3 = #[.int .u8 0, .int .u8 0, .int .u8 0, .int .u8 0, .int .u8 15, .int .u8 0] := by kernel_rfl
def PostW (W : World) (r : Nat) (w : World) : Prop := W.heap.size ≤ r ∧ w.heap[r]? = some (.cells #[.int .u8 0, .int .u8 0, .int .u8 0, .int .u8 0, .int .u8 15, .int .u8 0] 37 (0, 0)) ∧ Below W.heap.size W w
structure W13 (W : World) (r : Nat) (b3 b5 : Bool) (w : World) : Prop where
  a0 : b3 = false → b5 = false → w = W
  a1 : b3 = true → b5 = false → w = W.alloc (.cells #[.int .u8 0, .int .u8 0, .int .u8 2, .int .u8 0, .int .u8 0, .int .u8 0] 32)
  a2 : b5 = true → PostW W r w
theorem lamp_le (k v : Nat) : 0 ≤ K.lamp k v ∧ K.lamp k v ≤ 15 := by
  unfold K.lamp
  by_cases hm : K.may k v = true
  · rw [if_pos hm]
    by_cases h11 : ((k : Int) == 11) = true
    · rw [if_pos h11]
      unfold K.may K.levels at hm
      rw [if_pos h11, Bool.and_eq_true, Bool.and_eq_true, decide_eq_true_eq, decide_eq_true_eq] at hm
      omega
    · rw [if_neg h11]; split <;> omega
  · rw [if_neg hm]; omega
theorem works_light (n : Nat) (W : World) : CallsIn Fence.wide n Try.prog 14 #[.agg #[.int .i64 1, .int .i64 3, .int .i64 1, .slice (some ⟨W.heap.size, 0, none⟩) 3 3]] (W.alloc (.cells #[.int .u8 0, .int .u8 0, .int .u8 2, .int .u8 0, .int .u8 0, .int .u8 0] 32)) fun e w' => ∃ r, e = .returned (.tuple #[.slice (some ⟨r, 0, none⟩) 3 3, .int .i64 0]) ∧ PostW W r w' := by
  have hbx := World.alloc_heap_new W (.cells #[.int .u8 0, .int .u8 0, .int .u8 2, .int .u8 0, .int .u8 0, .int .u8 0] 32)
  have hb : Below W.heap.size W (W.alloc (.cells #[.int .u8 0, .int .u8 0, .int .u8 2, .int .u8 0, .int .u8 0, .int .u8 0] 32)) := (Below.refl _ _).alloc (Nat.le_refl _) _
  have hz : W.heap.size < (W.alloc (.cells #[.int .u8 0, .int .u8 0, .int .u8 2, .int .u8 0, .int .u8 0, .int .u8 0] 32)).heap.size := by simp
  generalize W.alloc (.cells #[.int .u8 0, .int .u8 0, .int .u8 2, .int .u8 0, .int .u8 0, .int .u8 0] 32) = W1 at hbx hb hz ⊢
  have hcell : ∀ j, W1.cell? ⟨W.heap.size, j, none⟩ = (#[Value.int .u8 0, .int .u8 0, .int .u8 2, .int .u8 0, .int .u8 0, .int .u8 0] : Array Value)[j]? := fun j => by simp [World.cell?, hbx]
  have hc : Cells W1 (fun _ => False) 3 W.heap.size 0 wK (fun _ => 0) wcl := by
    refine ⟨by omega, hz, fun h => h, fun s hs => ?_, fun s hs => ?_, fun s hs W m => ?_⟩
    · rw [hcell]
      have : s = 0 ∨ s = 1 ∨ s = 2 := by omega
      rcases this with rfl | rfl | rfl <;> rfl
    · rw [hcell]
      have : s = 0 ∨ s = 1 ∨ s = 2 := by omega
      rcases this with rfl | rfl | rfl <;> rfl
    · exact clear_in m (wK s) 0 (by unfold wK; split <;> omega) (by omega) W
  refine (light_in (X := 1) (Y := 3) (Z := 1) n hc wlm (fun s hs => ?_) (by omega) (by omega) (by omega) rfl).mono ?_
  · have hl := lamp_le (wK s) 0
    refine ⟨by unfold wlm; omega, fun m W => ?_⟩
    have := lamp_in m (wK s) 0 (by unfold wK; split <;> omega) (by omega) W
    unfold wlm
    rw [Int.toNat_of_nonneg hl.1]
    exact this
  · rintro e w' ⟨r, rfl, h1, h2, h3⟩
    rw [works_pairs] at h2
    exact ⟨r, rfl, by omega, h2, hb.trans (h3.mono hb.size)⟩
theorem r13_1 (n : Nat) (W : World) (Q : Exit → Act → World → Prop) (a : Act) (h0 : SR [] 33 [] W a W)
    (hQ : ∀ a w r, PostW W r w → SR [(1, .slice (some ⟨r, 0, none⟩) 3 3), (2, .int .i64 0)] 33 [] w a w → Q .normal a w) : (regOf 1 C13).wpIn Fence.wide n Try.prog Q a W := by
  simp only [regOf, C13, Try.f13, Option.getD, Nat.reduceBEq, Bool.false_eq_true, if_true, if_false]
  refine region_seq (SomeR fun r _ => RI []
    [(0, 4, .agg #[.int .u8 0, .int .u8 0]), (1, 5, .agg #[.int .u8 2, .int .u8 0]), (2, 6, .agg #[.int .u8 0, .int .u8 0]), (3, 7, .slice (some ⟨W.heap.size, 0, none⟩) 3 3), (4, 8, .agg #[.int .i64 1, .int .i64 3, .int .i64 1, .slice (some ⟨W.heap.size, 0, none⟩) 3 3]), (5, 9, .tuple #[.slice (some ⟨r, 0, none⟩) 3 3, .int .i64 0]), (6, 3, .tuple #[.slice (some ⟨r, 0, none⟩) 3 3, .int .i64 0]), (7, 10, .slice (some ⟨r, 0, none⟩) 3 3), (8, 11, .int .i64 0), (9, 1, .slice (some ⟨r, 0, none⟩) 3 3), (10, 2, .int .i64 0)] 33 [] (fun Xs w => W13 W r (Xs 3) (Xs 5) w)) (by kernel_rfl) ⟨0, 0, h0.size, h0.defers, by simp, by simp, ⟨fun _ _ => rfl, fun h => (by cases h), fun h => (by cases h)⟩⟩ ⟨?_, ?_, ?_, ?_, ?_, ?_, ?_, ?_, ?_, ?_, ?_, trivial⟩ ?_
  · intro Xs a w hX hdep hC hJ
    obtain ⟨r, _, hI⟩ := hJ
    go_simp
    exact ⟨r, 0, hI.put' (k := 0) (d := 4) (v := .agg #[.int .u8 0, .int .u8 0]) (by decide) (by simp) (by simp) (by simp) (by simpa [addX] using hI.wp)⟩
  · intro Xs a w hX hdep hC hJ
    obtain ⟨r, _, hI⟩ := hJ
    go_simp
    exact ⟨r, 0, hI.put' (k := 1) (d := 5) (v := .agg #[.int .u8 2, .int .u8 0]) (by decide) (by simp) (by simp) (by simp) (by simpa [addX] using hI.wp)⟩
  · intro Xs a w hX hdep hC hJ
    obtain ⟨r, _, hI⟩ := hJ
    go_simp
    exact ⟨r, 0, hI.put' (k := 2) (d := 6) (v := .agg #[.int .u8 0, .int .u8 0]) (by decide) (by simp) (by simp) (by simp) (by simpa [addX] using hI.wp)⟩
  · intro Xs a w hX hdep hC hJ
    obtain ⟨r, _, hI⟩ := hJ
    have e4 := hI.gk 0 rfl (hdep ⟨0, .data⟩ (by simp) rfl); have e5 := hI.gk 1 rfl (hdep ⟨1, .data⟩ (by simp) rfl); have e6 := hI.gk 2 rfl (hdep ⟨2, .data⟩ (by simp) rfl)
    have x5 : Xs 5 = false := by
      cases h : Xs 5 with
      | false => rfl
      | true =>
        have y5 := h
        have y4 := hC 5 _ rfl y5 ⟨4, .data⟩ (by simp) rfl
        have y3 := hC 4 _ rfl y4 ⟨3, .data⟩ (by simp) rfl
        rw [hX] at y3; cases y3
    obtain rfl := hI.wp.a0 hX x5
    go_simp
    refine ⟨r, 0, hI.put' (k := 3) (d := 7) (v := .slice (some ⟨w.heap.size, 0, none⟩) 3 3) (by decide) (by simp) (by simp) (by simp) ?_⟩
    have e3 : addX Xs 3 3 = true := by simp
    have e5 : addX Xs 3 5 = false := by simp [addX, x5]
    show W13 _ _ (addX Xs 3 3) (addX Xs 3 5) _
    rw [e3, e5]
    exact ⟨fun h => (by cases h), fun _ _ => rfl, fun h => (by cases h)⟩
  · intro Xs a w hX hdep hC hJ
    obtain ⟨r, _, hI⟩ := hJ
    have e7 := hI.gk 3 rfl (hdep ⟨3, .data⟩ (by simp) rfl); go_simp
    exact ⟨r, 0, hI.put' (k := 4) (d := 8) (v := .agg #[.int .i64 1, .int .i64 3, .int .i64 1, .slice (some ⟨W.heap.size, 0, none⟩) 3 3]) (by decide) (by simp) (by simp) (by simp) (by simpa [addX] using hI.wp)⟩
  · intro Xs a w hX hdep hC hJ
    obtain ⟨r, _, hI⟩ := hJ
    have x4 : Xs 4 = true := hdep ⟨4, .data⟩ (by simp) rfl
    have e8 := hI.gk 4 rfl x4
    have n6 : Xs 6 = false := by
      cases h : Xs 6 with
      | false => rfl
      | true => have y := hC 6 _ rfl h ⟨5, .data⟩ (by simp) rfl; rw [hX] at y; cases y
    have n7 : Xs 7 = false := by
      cases h : Xs 7 with
      | false => rfl
      | true => have y := hC 7 _ rfl h ⟨6, .data⟩ (by simp) rfl; rw [n6] at y; cases y
    have n8 : Xs 8 = false := by
      cases h : Xs 8 with
      | false => rfl
      | true => have y := hC 8 _ rfl h ⟨6, .data⟩ (by simp) rfl; rw [n6] at y; cases y
    have n9 : Xs 9 = false := by
      cases h : Xs 9 with
      | false => rfl
      | true => have y := hC 9 _ rfl h ⟨7, .data⟩ (by simp) rfl; rw [n7] at y; cases y
    have n10 : Xs 10 = false := by
      cases h : Xs 10 with
      | false => rfl
      | true => have y := hC 10 _ rfl h ⟨8, .data⟩ (by simp) rfl; rw [n8] at y; cases y
    have x3 : Xs 3 = true := hC 4 _ rfl x4 ⟨3, .data⟩ (by simp) rfl
    obtain rfl := hI.wp.a1 x3 hX
    go_simp
    refine ⟨trivial, fun h => (by cases h), (works_light (n - 1) W).mono ?_⟩
    rintro e w' ⟨r', rfl, hp⟩
    refine ⟨r', 0, RI.putY hI (k := 5) (d := 9) (by decide) (by simp) (by simp) (by simp) (by simp [n6, n7, n8, n9, n10]) ?_⟩
    have e3 : addX Xs 5 3 = true := by simp [addX, x3]
    have e5 : addX Xs 5 5 = true := by simp
    show W13 _ _ (addX Xs 5 3) (addX Xs 5 5) _
    rw [e3, e5]
    exact ⟨fun h => (by cases h), fun _ h => (by cases h), fun _ => hp⟩
  · intro Xs a w hX hdep hC hJ
    obtain ⟨r, _, hI⟩ := hJ
    have e9 := hI.gk 5 rfl (hdep ⟨5, .data⟩ (by simp) rfl); go_simp
    exact ⟨r, 0, hI.put' (k := 6) (d := 3) (v := .tuple #[.slice (some ⟨r, 0, none⟩) 3 3, .int .i64 0]) (by decide) (by simp) (by simp) (by simp) (by simpa [addX] using hI.wp)⟩
  · intro Xs a w hX hdep hC hJ
    obtain ⟨r, _, hI⟩ := hJ
    have e3 := hI.gk 6 rfl (hdep ⟨6, .data⟩ (by simp) rfl); go_simp
    exact ⟨r, 0, hI.put' (k := 7) (d := 10) (v := .slice (some ⟨r, 0, none⟩) 3 3) (by decide) (by simp) (by simp) (by simp) (by simpa [addX] using hI.wp)⟩
  · intro Xs a w hX hdep hC hJ
    obtain ⟨r, _, hI⟩ := hJ
    have e3 := hI.gk 6 rfl (hdep ⟨6, .data⟩ (by simp) rfl); go_simp
    exact ⟨r, 0, hI.put' (k := 8) (d := 11) (v := .int .i64 0) (by decide) (by simp) (by simp) (by simp) (by simpa [addX] using hI.wp)⟩
  · intro Xs a w hX hdep hC hJ
    obtain ⟨r, _, hI⟩ := hJ
    have e10 := hI.gk 7 rfl (hdep ⟨7, .data⟩ (by simp) rfl); go_simp
    exact ⟨r, 0, hI.put' (k := 9) (d := 1) (v := .slice (some ⟨r, 0, none⟩) 3 3) (by decide) (by simp) (by simp) (by simp) (by simpa [addX] using hI.wp)⟩
  · intro Xs a w hX hdep hC hJ
    obtain ⟨r, _, hI⟩ := hJ
    have e11 := hI.gk 8 rfl (hdep ⟨8, .data⟩ (by simp) rfl); go_simp
    exact ⟨r, 0, hI.put' (k := 10) (d := 2) (v := .int .i64 0) (by decide) (by simp) (by simp) (by simp) (by simpa [addX] using hI.wp)⟩
  · intro Xs a w hX hJ
    obtain ⟨r, _, hI⟩ := hJ
    refine hQ a w r (hI.wp.a2 (hX 5 (by simp))) ⟨hI.size, hI.defers, ?_, rfl⟩
    simp only [List.mem_cons, List.not_mem_nil, or_false, forall_eq_or_imp, forall_eq]
    exact ⟨hI.kn (9, 1, .slice (some ⟨r, 0, none⟩) 3 3) (by simp) (hX 9 (by simp)), hI.kn (10, 2, .int .i64 0) (by simp) (hX 10 (by simp))⟩
theorem r13_2 (n : Nat) (W : World) (r : Nat) (c0 : W.cell? ⟨r, 0, none⟩ = some (.int .u8 0)) (c1 : W.cell? ⟨r, 1, none⟩ = some (.int .u8 0)) (c4 : W.cell? ⟨r, 4, none⟩ = some (.int .u8 15)) (c5 : W.cell? ⟨r, 5, none⟩ = some (.int .u8 0)) (Q : Exit → Act → World → Prop) (a : Act) (h0 : SR [(1, .slice (some ⟨r, 0, none⟩) 3 3), (2, .int .i64 0)] 33 [] W a W)
    (hQ : ∀ a, a.defers = [] → a.tmps[0]?.getD undef = .bool true → Q .normal a W) : (regOf 2 C13).wpIn Fence.wide n Try.prog Q a W := by
  simp only [regOf, C13, Try.f13, Option.getD, Nat.reduceBEq, Bool.false_eq_true, if_true, if_false]
  refine region_sq (fun k_ a w => match k_ with | 0 => SR [(1, .slice (some ⟨r, 0, none⟩) 3 3), (2, .int .i64 0)] 33 [] W a w | 1 => SR [(1, .slice (some ⟨r, 0, none⟩) 3 3), (2, .int .i64 0), (12, .int .i64 0)] 33 [] W a w | 2 => SR [(1, .slice (some ⟨r, 0, none⟩) 3 3), (2, .int .i64 0), (12, .int .i64 0), (13, .bool true)] 33 [] W a w | 3 => SR [(1, .slice (some ⟨r, 0, none⟩) 3 3), (2, .int .i64 0), (12, .int .i64 0), (13, .bool true), (14, .bool true)] 33 [] W a w | 4 => SR [(1, .slice (some ⟨r, 0, none⟩) 3 3), (2, .int .i64 0), (12, .int .i64 0), (13, .bool true), (14, .bool true), (15, .slice (some ⟨r, 0, none⟩) 3 3)] 33 [] W a w | 5 => SR [(1, .slice (some ⟨r, 0, none⟩) 3 3), (2, .int .i64 0), (12, .int .i64 0), (13, .bool true), (14, .bool true), (15, .slice (some ⟨r, 0, none⟩) 3 3), (16, .int .i64 3)] 33 [] W a w | 6 => SR [(1, .slice (some ⟨r, 0, none⟩) 3 3), (2, .int .i64 0), (12, .int .i64 0), (13, .bool true), (14, .bool true), (15, .slice (some ⟨r, 0, none⟩) 3 3), (16, .int .i64 3), (17, .bool true)] 33 [] W a w | 7 => SR [(1, .slice (some ⟨r, 0, none⟩) 3 3), (2, .int .i64 0), (12, .int .i64 0), (13, .bool true), (14, .bool true), (15, .slice (some ⟨r, 0, none⟩) 3 3), (16, .int .i64 3), (17, .bool true), (18, .bool true)] 33 [] W a w | 8 => SR [(1, .slice (some ⟨r, 0, none⟩) 3 3), (2, .int .i64 0), (12, .int .i64 0), (13, .bool true), (14, .bool true), (15, .slice (some ⟨r, 0, none⟩) 3 3), (16, .int .i64 3), (17, .bool true), (18, .bool true), (19, .bool true)] 33 [] W a w | 9 => SR [(1, .slice (some ⟨r, 0, none⟩) 3 3), (2, .int .i64 0), (12, .int .i64 0), (13, .bool true), (14, .bool true), (15, .slice (some ⟨r, 0, none⟩) 3 3), (16, .int .i64 3), (17, .bool true), (18, .bool true), (19, .bool true), (20, .slice (some ⟨r, 0, none⟩) 3 3)] 33 [] W a w | 10 => SR [(1, .slice (some ⟨r, 0, none⟩) 3 3), (2, .int .i64 0), (12, .int .i64 0), (13, .bool true), (14, .bool true), (15, .slice (some ⟨r, 0, none⟩) 3 3), (16, .int .i64 3), (17, .bool true), (18, .bool true), (19, .bool true), (20, .slice (some ⟨r, 0, none⟩) 3 3), (21, .pointer (some ⟨r, 0, none⟩))] 33 [] W a w | 11 => SR [(1, .slice (some ⟨r, 0, none⟩) 3 3), (2, .int .i64 0), (12, .int .i64 0), (13, .bool true), (14, .bool true), (15, .slice (some ⟨r, 0, none⟩) 3 3), (16, .int .i64 3), (17, .bool true), (18, .bool true), (19, .bool true), (20, .slice (some ⟨r, 0, none⟩) 3 3), (21, .pointer (some ⟨r, 0, none⟩)), (22, .agg #[.int .u8 0, .int .u8 0])] 33 [] W a w | 12 => SR [(1, .slice (some ⟨r, 0, none⟩) 3 3), (2, .int .i64 0), (12, .int .i64 0), (13, .bool true), (14, .bool true), (15, .slice (some ⟨r, 0, none⟩) 3 3), (16, .int .i64 3), (17, .bool true), (18, .bool true), (19, .bool true), (20, .slice (some ⟨r, 0, none⟩) 3 3), (21, .pointer (some ⟨r, 0, none⟩)), (22, .agg #[.int .u8 0, .int .u8 0]), (23, .agg #[.int .u8 0, .int .u8 0])] 33 [] W a w | 13 => SR [(1, .slice (some ⟨r, 0, none⟩) 3 3), (2, .int .i64 0), (12, .int .i64 0), (13, .bool true), (14, .bool true), (15, .slice (some ⟨r, 0, none⟩) 3 3), (16, .int .i64 3), (17, .bool true), (18, .bool true), (19, .bool true), (20, .slice (some ⟨r, 0, none⟩) 3 3), (21, .pointer (some ⟨r, 0, none⟩)), (22, .agg #[.int .u8 0, .int .u8 0]), (23, .agg #[.int .u8 0, .int .u8 0]), (24, .bool true)] 33 [] W a w | 14 => SR [(1, .slice (some ⟨r, 0, none⟩) 3 3), (2, .int .i64 0), (12, .int .i64 0), (13, .bool true), (14, .bool true), (15, .slice (some ⟨r, 0, none⟩) 3 3), (16, .int .i64 3), (17, .bool true), (18, .bool true), (19, .bool true), (20, .slice (some ⟨r, 0, none⟩) 3 3), (21, .pointer (some ⟨r, 0, none⟩)), (22, .agg #[.int .u8 0, .int .u8 0]), (23, .agg #[.int .u8 0, .int .u8 0]), (24, .bool true), (25, .bool true)] 33 [] W a w | 15 => SR [(1, .slice (some ⟨r, 0, none⟩) 3 3), (2, .int .i64 0), (12, .int .i64 0), (13, .bool true), (14, .bool true), (15, .slice (some ⟨r, 0, none⟩) 3 3), (16, .int .i64 3), (17, .bool true), (18, .bool true), (19, .bool true), (20, .slice (some ⟨r, 0, none⟩) 3 3), (21, .pointer (some ⟨r, 0, none⟩)), (22, .agg #[.int .u8 0, .int .u8 0]), (23, .agg #[.int .u8 0, .int .u8 0]), (24, .bool true), (25, .bool true), (26, .bool true)] 33 [] W a w | 16 => SR [(1, .slice (some ⟨r, 0, none⟩) 3 3), (2, .int .i64 0), (12, .int .i64 0), (13, .bool true), (14, .bool true), (15, .slice (some ⟨r, 0, none⟩) 3 3), (16, .int .i64 3), (17, .bool true), (18, .bool true), (19, .bool true), (20, .slice (some ⟨r, 0, none⟩) 3 3), (21, .pointer (some ⟨r, 0, none⟩)), (22, .agg #[.int .u8 0, .int .u8 0]), (23, .agg #[.int .u8 0, .int .u8 0]), (24, .bool true), (25, .bool true), (26, .bool true), (27, .slice (some ⟨r, 0, none⟩) 3 3)] 33 [] W a w | 17 => SR [(1, .slice (some ⟨r, 0, none⟩) 3 3), (2, .int .i64 0), (12, .int .i64 0), (13, .bool true), (14, .bool true), (15, .slice (some ⟨r, 0, none⟩) 3 3), (16, .int .i64 3), (17, .bool true), (18, .bool true), (19, .bool true), (20, .slice (some ⟨r, 0, none⟩) 3 3), (21, .pointer (some ⟨r, 0, none⟩)), (22, .agg #[.int .u8 0, .int .u8 0]), (23, .agg #[.int .u8 0, .int .u8 0]), (24, .bool true), (25, .bool true), (26, .bool true), (27, .slice (some ⟨r, 0, none⟩) 3 3), (28, .pointer (some ⟨r, 4, none⟩))] 33 [] W a w | 18 => SR [(1, .slice (some ⟨r, 0, none⟩) 3 3), (2, .int .i64 0), (12, .int .i64 0), (13, .bool true), (14, .bool true), (15, .slice (some ⟨r, 0, none⟩) 3 3), (16, .int .i64 3), (17, .bool true), (18, .bool true), (19, .bool true), (20, .slice (some ⟨r, 0, none⟩) 3 3), (21, .pointer (some ⟨r, 0, none⟩)), (22, .agg #[.int .u8 0, .int .u8 0]), (23, .agg #[.int .u8 0, .int .u8 0]), (24, .bool true), (25, .bool true), (26, .bool true), (27, .slice (some ⟨r, 0, none⟩) 3 3), (28, .pointer (some ⟨r, 4, none⟩)), (29, .agg #[.int .u8 15, .int .u8 0])] 33 [] W a w | 19 => SR [(1, .slice (some ⟨r, 0, none⟩) 3 3), (2, .int .i64 0), (12, .int .i64 0), (13, .bool true), (14, .bool true), (15, .slice (some ⟨r, 0, none⟩) 3 3), (16, .int .i64 3), (17, .bool true), (18, .bool true), (19, .bool true), (20, .slice (some ⟨r, 0, none⟩) 3 3), (21, .pointer (some ⟨r, 0, none⟩)), (22, .agg #[.int .u8 0, .int .u8 0]), (23, .agg #[.int .u8 0, .int .u8 0]), (24, .bool true), (25, .bool true), (26, .bool true), (27, .slice (some ⟨r, 0, none⟩) 3 3), (28, .pointer (some ⟨r, 4, none⟩)), (29, .agg #[.int .u8 15, .int .u8 0]), (30, .agg #[.int .u8 15, .int .u8 0])] 33 [] W a w | 20 => SR [(1, .slice (some ⟨r, 0, none⟩) 3 3), (2, .int .i64 0), (12, .int .i64 0), (13, .bool true), (14, .bool true), (15, .slice (some ⟨r, 0, none⟩) 3 3), (16, .int .i64 3), (17, .bool true), (18, .bool true), (19, .bool true), (20, .slice (some ⟨r, 0, none⟩) 3 3), (21, .pointer (some ⟨r, 0, none⟩)), (22, .agg #[.int .u8 0, .int .u8 0]), (23, .agg #[.int .u8 0, .int .u8 0]), (24, .bool true), (25, .bool true), (26, .bool true), (27, .slice (some ⟨r, 0, none⟩) 3 3), (28, .pointer (some ⟨r, 4, none⟩)), (29, .agg #[.int .u8 15, .int .u8 0]), (30, .agg #[.int .u8 15, .int .u8 0]), (31, .bool true)] 33 [] W a w | 21 => SR [(1, .slice (some ⟨r, 0, none⟩) 3 3), (2, .int .i64 0), (12, .int .i64 0), (13, .bool true), (14, .bool true), (15, .slice (some ⟨r, 0, none⟩) 3 3), (16, .int .i64 3), (17, .bool true), (18, .bool true), (19, .bool true), (20, .slice (some ⟨r, 0, none⟩) 3 3), (21, .pointer (some ⟨r, 0, none⟩)), (22, .agg #[.int .u8 0, .int .u8 0]), (23, .agg #[.int .u8 0, .int .u8 0]), (24, .bool true), (25, .bool true), (26, .bool true), (27, .slice (some ⟨r, 0, none⟩) 3 3), (28, .pointer (some ⟨r, 4, none⟩)), (29, .agg #[.int .u8 15, .int .u8 0]), (30, .agg #[.int .u8 15, .int .u8 0]), (31, .bool true), (32, .bool true)] 33 [] W a w | _ => SR [(1, .slice (some ⟨r, 0, none⟩) 3 3), (2, .int .i64 0), (12, .int .i64 0), (13, .bool true), (14, .bool true), (15, .slice (some ⟨r, 0, none⟩) 3 3), (16, .int .i64 3), (17, .bool true), (18, .bool true), (19, .bool true), (20, .slice (some ⟨r, 0, none⟩) 3 3), (21, .pointer (some ⟨r, 0, none⟩)), (22, .agg #[.int .u8 0, .int .u8 0]), (23, .agg #[.int .u8 0, .int .u8 0]), (24, .bool true), (25, .bool true), (26, .bool true), (27, .slice (some ⟨r, 0, none⟩) 3 3), (28, .pointer (some ⟨r, 4, none⟩)), (29, .agg #[.int .u8 15, .int .u8 0]), (30, .agg #[.int .u8 15, .int .u8 0]), (31, .bool true), (32, .bool true), (0, .bool true)] 33 [] W a w) h0 ⟨?_, ?_, ?_, ?_, ?_, ?_, ?_, ?_, ?_, ?_, ?_, ?_, ?_, ?_, ?_, ?_, ?_, ?_, ?_, ?_, ?_, ?_, trivial⟩ ?_
  · intro a w (hI : SR _ _ _ _ a w); have e2 := hI.g 2 rfl; obtain rfl := hI.wp; go_simp; exact hI.s 12
  · intro a w (hI : SR _ _ _ _ a w); have e12 := hI.g 12 rfl; obtain rfl := hI.wp; go_simp; exact hI.s 13
  · intro a w (hI : SR _ _ _ _ a w); have e13 := hI.g 13 rfl; obtain rfl := hI.wp; go_simp; exact hI.s 14
  · intro a w (hI : SR _ _ _ _ a w); have e1 := hI.g 1 rfl; have e14 := hI.g 14 rfl; have f14 := slot_bool e14; obtain rfl := hI.wp; go_simp; exact hI.s 15
  · intro a w (hI : SR _ _ _ _ a w); have e15 := hI.g 15 rfl; have e14 := hI.g 14 rfl; have f14 := slot_bool e14; obtain rfl := hI.wp; go_simp; exact hI.s 16
  · intro a w (hI : SR _ _ _ _ a w); have e16 := hI.g 16 rfl; have e14 := hI.g 14 rfl; have f14 := slot_bool e14; obtain rfl := hI.wp; go_simp; exact hI.s 17
  · intro a w (hI : SR _ _ _ _ a w); have e14 := hI.g 14 rfl; have e17 := hI.g 17 rfl; obtain rfl := hI.wp; go_simp; exact hI.s 18
  · intro a w (hI : SR _ _ _ _ a w); have e18 := hI.g 18 rfl; obtain rfl := hI.wp; go_simp; exact hI.s 19
  · intro a w (hI : SR _ _ _ _ a w); have e1 := hI.g 1 rfl; have e19 := hI.g 19 rfl; have f19 := slot_bool e19; obtain rfl := hI.wp; go_simp; exact hI.s 20
  · intro a w (hI : SR _ _ _ _ a w); have e20 := hI.g 20 rfl; have e19 := hI.g 19 rfl; have f19 := slot_bool e19; obtain rfl := hI.wp; go_simp; exact hI.s 21
  · intro a w (hI : SR _ _ _ _ a w); have e21 := hI.g 21 rfl; have e19 := hI.g 19 rfl; have f19 := slot_bool e19; obtain rfl := hI.wp
    have k0 := c0
    have k1 := c1
    go_simp; exact hI.s 22
  · intro a w (hI : SR _ _ _ _ a w); have e19 := hI.g 19 rfl; have f19 := slot_bool e19; obtain rfl := hI.wp; go_simp; exact hI.s 23
  · intro a w (hI : SR _ _ _ _ a w); have e22 := hI.g 22 rfl; have e23 := hI.g 23 rfl; have e19 := hI.g 19 rfl; have f19 := slot_bool e19; obtain rfl := hI.wp; go_simp; exact hI.s 24
  · intro a w (hI : SR _ _ _ _ a w); have e19 := hI.g 19 rfl; have e24 := hI.g 24 rfl; obtain rfl := hI.wp; go_simp; exact hI.s 25
  · intro a w (hI : SR _ _ _ _ a w); have e25 := hI.g 25 rfl; obtain rfl := hI.wp; go_simp; exact hI.s 26
  · intro a w (hI : SR _ _ _ _ a w); have e1 := hI.g 1 rfl; have e26 := hI.g 26 rfl; have f26 := slot_bool e26; obtain rfl := hI.wp; go_simp; exact hI.s 27
  · intro a w (hI : SR _ _ _ _ a w); have e27 := hI.g 27 rfl; have e26 := hI.g 26 rfl; have f26 := slot_bool e26; obtain rfl := hI.wp; go_simp; exact hI.s 28
  · intro a w (hI : SR _ _ _ _ a w); have e28 := hI.g 28 rfl; have e26 := hI.g 26 rfl; have f26 := slot_bool e26; obtain rfl := hI.wp
    have k4 := c4
    have k5 := c5
    go_simp; exact hI.s 29
  · intro a w (hI : SR _ _ _ _ a w); have e26 := hI.g 26 rfl; have f26 := slot_bool e26; obtain rfl := hI.wp; go_simp; exact hI.s 30
  · intro a w (hI : SR _ _ _ _ a w); have e29 := hI.g 29 rfl; have e30 := hI.g 30 rfl; have e26 := hI.g 26 rfl; have f26 := slot_bool e26; obtain rfl := hI.wp; go_simp; exact hI.s 31
  · intro a w (hI : SR _ _ _ _ a w); have e26 := hI.g 26 rfl; have e31 := hI.g 31 rfl; obtain rfl := hI.wp; go_simp; exact hI.s 32
  · intro a w (hI : SR _ _ _ _ a w); have e32 := hI.g 32 rfl; obtain rfl := hI.wp; go_simp; exact hI.s 0
  · intro a w (hI : SR _ _ _ _ a w); obtain rfl := hI.wp
    exact hQ a hI.defers (hI.kn (0, .bool true) (by simp))
theorem r13_0 (n : Nat) (W : World) (Q : Exit → Act → World → Prop) (a : Act) (h0 : SR [] 33 [] W a W) (hQ : ∀ a, SR [] 33 [] W a W → Q .normal a W) : (regOf 0 C13).wpIn Fence.wide n Try.prog Q a W := by
  simp only [regOf, C13, Try.f13, Option.getD, Nat.reduceBEq, Bool.false_eq_true, if_true, if_false]
  refine region_sq (fun k_ a w => match k_ with | 0 => SR [] 33 [] W a w | _ => SR [(0, .bool false)] 33 [] W a w) h0 ⟨?_, trivial⟩ ?_
  · intro a w (hI : SR _ _ _ _ a w); obtain rfl := hI.wp; go_simp; exact hI.s 0
  · intro a w (hI : SR _ _ _ _ a w); obtain rfl := hI.wp
    exact hQ a (hI.sub (by simp))
theorem works_in (n : Nat) (W : World) : CallsIn Fence.wide n Try.prog 13 #[] W fun e w' => e = .returned (.bool true) ∧ Below W.heap.size W w' := by
  refine callsIn_of_wp Try.func13 rfl trivial ?_
  show C13.wpIn _ _ _ _ _ _
  rw [show C13 = .seq (regOf 0 C13) (.seq (regOf 1 C13) (.seq (regOf 2 C13) .ret)) from by kernel_rfl]
  refine wpIn_seq ?_
  have h0 : SR [] 33 [] W { tmps := (#[] : Array Value) ++ Array.replicate (Try.f13.ntmps - (#[] : Array Value).size) undef, defers := [] } W := ⟨by simp [Try.ntmps13], rfl, by simp, rfl⟩
  refine r13_0 n W _ _ h0 ?_
  intro a1 h1
  refine wpIn_seq (r13_1 n W _ a1 h1 ?_)
  rintro a2 w r ⟨hr, hh, hb⟩ h2
  refine wpIn_seq (r13_2 n w r (by simp [World.cell?, hh]) (by simp [World.cell?, hh]) (by simp [World.cell?, hh]) (by simp [World.cell?, hh]) _ a2 h2 ?_)
  intro a3 hd h3
  exact wpIn_ret ⟨hd, _, results_tmp (t := 0) rfl _ _ _, by rw [Array.getD_eq_getD_getElem?, h3], hb⟩
end Go.Proofs.Ytmgiabehooghcaa
namespace Go.Proofs.Ytmgiabehooghcaa
open Go.RowKit Go.Shelf
attribute [local go_sem] Oper.semAt_some

structure SG (kn : List (Nat × Value)) (sz : Nat) (G : World → Prop) (a : Act) (w : World) : Prop where
  size : a.tmps.size = sz
  defers : a.defers = []
  kn : ∀ p ∈ kn, a.tmps[p.1]?.getD undef = p.2
  wp : G w
def Stable (G : World → Prop) : Prop := ∀ w w', G w → Below w.heap.size w w' → G w'
theorem SG.put {kn kn2 : List (Nat × Value)} {sz : Nat} {G G' : World → Prop} {a : Act} {w w' : World} (h : SG kn sz G a w) {d : Nat} {v : Value} (hd : d < sz) (h2 : ∀ p ∈ kn2, p.1 = d ∧ p.2 = v ∨ p.1 ≠ d ∧ p ∈ kn) (hg : G' w') : SG kn2 sz G' { tmps := a.tmps.setIfInBounds d v, defers := a.defers } w' where
  size := by simpa using h.size
  defers := h.defers
  kn := fun p hp => by
    have := put_getD a d p.1 v (by rw [h.size]; exact hd)
    rw [show ({ tmps := a.tmps.setIfInBounds d v, defers := a.defers } : Act) = a.put (some d) v from rfl, this]
    rcases h2 p hp with ⟨h1, h3⟩ | ⟨h1, h3⟩
    · rw [if_pos h1, h3]
    · rw [if_neg h1]; exact h.kn p h3
  wp := hg
theorem SG.q {kn kn2 : List (Nat × Value)} {sz : Nat} {G : World → Prop} {a : Act} {w : World} (h : SG kn sz G a w) (d : Nat) {v : Value} (hd : d < sz := by decide) (h2 : ∀ p ∈ kn2, p.1 = d ∧ p.2 = v ∨ p.1 ≠ d ∧ p ∈ kn := by simp) : SG kn2 sz G { tmps := a.tmps.setIfInBounds d v, defers := a.defers } w := h.put hd h2 h.wp
theorem SG.none {kn : List (Nat × Value)} {sz : Nat} {G G' : World → Prop} {a : Act} {w w' : World} (h : SG kn sz G a w) (hg : G' w') : SG kn sz G' a w' := ⟨h.size, h.defers, h.kn, hg⟩
theorem SG.sub {kn kn' : List (Nat × Value)} {sz : Nat} {G : World → Prop} {a : Act} {w : World} (h : SG kn sz G a w) (hs : ∀ p ∈ kn', p ∈ kn) : SG kn' sz G a w := ⟨h.size, h.defers, fun p hp => h.kn p (hs p hp), h.wp⟩
theorem SG.sr {kn : List (Nat × Value)} {sz : Nat} {G : World → Prop} {a : Act} {w : World} (h : SG kn sz G a w) : SR kn sz [] w a w := ⟨h.size, h.defers, h.kn, rfl⟩
theorem SR.sg {kn : List (Nat × Value)} {sz : Nat} {G : World → Prop} {a : Act} {W w : World} (h : SR kn sz [] W a w) (hg : G w) : SG kn sz G a w := ⟨h.size, h.defers, h.kn, hg⟩
structure Has (W0 : World) (bs : List (Nat × Obj)) (W : World) : Prop where
  bel : Below W0.heap.size W0 W
  blk : ∀ p ∈ bs, W.heap[p.1]? = some p.2
  new : ∀ p ∈ bs, W0.heap.size ≤ p.1
  nd : (bs.map Prod.fst).Nodup
section
variable {W0 W w w' : World} {bs : List (Nat × Obj)}
theorem Has.start (W0 : World) : Has W0 [] W0 := ⟨Below.refl _ _, by simp, by simp, by simp⟩
theorem Has.lt (h : Has W0 bs W) {p : Nat × Obj} (hp : p ∈ bs) : p.1 < W.heap.size := (Array.getElem?_eq_some_iff.1 (h.blk p hp)).1
theorem Has.below (h : Has W0 bs w) (hb : Below w.heap.size w w') : Has W0 bs w' :=
  ⟨h.bel.trans (hb.mono h.bel.size), fun p hp => (hb.block _ (h.lt hp)).trans (h.blk p hp), h.new, h.nd⟩
theorem Has.stable (W0 : World) (bs : List (Nat × Obj)) : Stable (Has W0 bs) := fun _ _ h hb => h.below hb
theorem Has.add (h : Has W0 bs w) (hb : Below w.heap.size w w') {r : Nat} {o : Obj} (hr : w.heap.size ≤ r) (ho : w'.heap[r]? = some o) : Has W0 ((r, o) :: bs) w' where
  bel := (h.below hb).bel
  blk := fun p hp => by rcases List.mem_cons.1 hp with rfl | hp
                        · exact ho
                        · exact (h.below hb).blk p hp
  new := fun p hp => by rcases List.mem_cons.1 hp with rfl | hp
                        · exact Nat.le_trans h.bel.size hr
                        · exact h.new p hp
  nd := by
    simp only [List.map_cons, List.nodup_cons]
    refine ⟨fun hm => ?_, h.nd⟩
    obtain ⟨p, hp, e⟩ := List.mem_map.1 hm
    have := h.lt hp
    omega
theorem Has.alloc (h : Has W0 bs w) (o : Obj) : Has W0 ((w.heap.size, o) :: bs) (w.alloc o) := h.add ((Below.refl _ _).alloc (Nat.le_refl _) _) (Nat.le_refl _) (World.alloc_heap_new w o)
theorem Has.tail {p : Nat × Obj} (h : Has W0 (p :: bs) w) : Has W0 bs w := ⟨h.bel, fun q hq => h.blk q (by simp [hq]), fun q hq => h.new q (by simp [hq]), by have := h.nd; simp only [List.map_cons, List.nodup_cons] at this; exact this.2⟩
theorem Has.set {b m : Nat} {cs : Array Value} {t : TypeId} (h : Has W0 ((b, .cells cs t (0, 0)) :: bs) w) (v : Value) : Has W0 ((b, .cells (cs.setIfInBounds m v) t (0, 0)) :: bs) (w.setCell ⟨b, m, none⟩ v) where
  bel := h.bel.setCell (p := ⟨b, m, none⟩) (h.new _ List.mem_cons_self) v
  blk := fun p hp => by
    rcases List.mem_cons.1 hp with rfl | hp
    · exact setCell_heap_same (h.blk _ List.mem_cons_self) v
    · have hne : p.1 ≠ b := fun e => by
        have := h.nd
        simp only [List.map_cons, List.nodup_cons] at this
        exact this.1 (List.mem_map.2 ⟨p, hp, e⟩)
      exact (Below.heap_setCell w ⟨b, m, none⟩ v p.1 hne).trans (h.blk p (by simp [hp]))
  new := fun p hp => by
    rcases List.mem_cons.1 hp with rfl | hp
    · exact h.new (b, .cells cs t (0, 0)) List.mem_cons_self
    · exact h.new p (by simp [hp])
  nd := by have := h.nd; simpa using this
theorem Has.perm {bs' : List (Nat × Obj)} (h : Has W0 bs w) (hp : bs'.Perm bs) : Has W0 bs' w :=
  ⟨h.bel, fun p h1 => h.blk p (hp.mem_iff.1 h1), fun p h1 => h.new p (hp.mem_iff.1 h1), (hp.map _).nodup_iff.2 h.nd⟩
theorem Has.cell (h : Has W0 bs w) {b : Nat} {cs : Array Value} {t : TypeId} {fr : Nat × Nat} (hm : (b, Obj.cells cs t fr) ∈ bs) {j : Nat} {v : Value} (hv : cs[j]? = some v) : w.cell? ⟨b, j, none⟩ = some v := by
  have := h.blk _ hm
  simp only at this
  simp [World.cell?, this, hv]
theorem Has.old (h : Has W0 bs w) {b j : Nat} (hb : b < W0.heap.size) {v : Value} (hv : W0.cell? ⟨b, j, none⟩ = some v) : w.cell? ⟨b, j, none⟩ = some v := (h.bel.cell (p := ⟨b, j, none⟩) hb).trans hv
theorem Has.unfrozen (h : Has W0 bs w) {b : Nat} {cs : Array Value} {t : TypeId} (hm : (b, Obj.cells cs t (0, 0)) ∈ bs) (j : Nat) : w.frozen? ⟨b, j, none⟩ = false := by
  have := h.blk _ hm
  simp only at this
  unfold World.frozen?
  rw [this]
  rfl
end
theorem slot_undef {a : Act} {t : Nat} (h : a.tmps[t]?.getD undef = undef) (hs : t < a.tmps.size) : a.tmps[t]? = some (.tuple #[]) := by
  rw [Array.getElem?_eq_getElem hs] at h ⊢
  simp only [Option.getD_some] at h
  rw [h]; rfl
theorem SG.g {kn : List (Nat × Value)} {sz : Nat} {G : World → Prop} {a : Act} {w : World} (h : SG kn sz G a w) (t : Nat) {v : Value} (hp : kn.lookup t = some v) : a.tmps[t]?.getD undef = v := h.kn _ (mem_of_lookup hp)
noncomputable def C17 : Code := Try.f17.body.getD .skip
theorem r17_0 (n : Nat) (W : World) (k v : Nat) (Q : Exit → Act → World → Prop) (a : Act) (h0 : SR [(0, .agg #[.int .u8 k, .int .u8 v])] 10 [] W a W)
    (hQ : ∀ a, SR [(1, .pointer (some ⟨W.heap.size, 0, none⟩))] 10 [] (W.alloc (.cells #[.int .u8 k, .int .u8 v] 32)) a (W.alloc (.cells #[.int .u8 k, .int .u8 v] 32)) → Q .normal a (W.alloc (.cells #[.int .u8 k, .int .u8 v] 32))) : (regOf 0 C17).wpIn Fence.wide n Try.prog Q a W := by
  simp only [regOf, C17, Try.f17, Option.getD, Nat.reduceBEq, Bool.false_eq_true, if_true, if_false]
  refine region_sq (fun k_ a w => match k_ with | 0 => SR [(0, .agg #[.int .u8 k, .int .u8 v])] 10 [] W a w | 1 => SR [(1, .pointer (some ⟨W.heap.size, 0, none⟩))] 10 [] (W.alloc (.cells #[.int .u8 k, .int .u8 v] 32)) a w | _ => SR [(1, .pointer (some ⟨W.heap.size, 0, none⟩))] 10 [] (W.alloc (.cells #[.int .u8 k, .int .u8 v] 32)) a w) h0 ⟨?_, ?_, trivial⟩ ?_
  · intro a w (hI : SR _ _ _ _ a w); have e0 := hI.g 0 rfl; obtain rfl := hI.wp; go_simp; exact hI.s 1
  · intro a w (hI : SR _ _ _ _ a w)
    obtain rfl : w = W.alloc (.cells #[.int .u8 k, .int .u8 v] 32) := hI.wp
    go_simp; exact hI.s 2
  · intro a w hI
    obtain rfl := hI.wp
    exact hQ a hI
theorem r17_1t (n : Nat) (W : World) (B k v : Nat) (c0 : W.cell? ⟨B, 0, none⟩ = some (.int .u8 k)) (c1 : W.cell? ⟨B, 1, none⟩ = some (.int .u8 v)) (z : B < W.heap.size)
    (hmay : ∀ m W, CallsIn Fence.wide m Try.prog 30 #[.agg #[.int .u8 k, .int .u8 v]] W fun e w' => e = .returned (.bool true) ∧ Below W.heap.size W w')
    (hclear : ∀ m W, CallsIn Fence.wide m Try.prog 31 #[.int .u8 k] W fun e w' => e = .returned (.bool (K.clear k)) ∧ Below W.heap.size W w')
    (Q : Exit → Act → World → Prop) (a : Act) (h0 : SR [(1, .pointer (some ⟨B, 0, none⟩))] 10 [] W a W)
    (hQ : ∀ a w, a.defers = [] → a.tmps[2]?.getD undef = .bool (K.clear k) → Below W.heap.size W w → Q .normal a w) : (regOf 1 C17).wpIn Fence.wide n Try.prog Q a W := by
  simp only [regOf, C17, Try.f17, Option.getD, Nat.reduceBEq, Bool.false_eq_true, if_true, if_false]
  refine region_seq (RI [(1, .pointer (some ⟨B, 0, none⟩))]
    [(0, 3, .agg #[.int .u8 k, .int .u8 v]), (1, 4, .bool true), (2, 5, .bool true), (3, 6, .pointer (some ⟨B, 0, none⟩)), (4, 7, .int .u8 k), (5, 8, .bool (K.clear k)), (6, 9, .bool (K.clear k)), (7, 2, .bool (K.clear k))] 10 [] (fun _ w => Below W.heap.size W w)) (by kernel_rfl) ⟨h0.size, h0.defers, h0.kn, by simp, Below.refl _ _⟩ ⟨?_, ?_, ?_, ?_, ?_, ?_, ?_, ?_, trivial⟩ ?_
  · intro X a w hX hdep hC hI; have e1 := hI.gi 1 rfl; have cc0 := (hI.wp.cell (p := ⟨B, 0, none⟩) z).trans c0; have cc1 := (hI.wp.cell (p := ⟨B, 1, none⟩) z).trans c1; go_simp; exact hI.p 0 3 hI.wp (v := .agg #[.int .u8 k, .int .u8 v])
  · intro X a w hX hdep hC hI; have e3 := hI.gk 0 rfl (hdep ⟨0, .data⟩ (by simp) rfl); go_simp
    refine ⟨trivial, fun h => (by cases h), (hmay (n - 1) w).mono ?_⟩
    rintro e w' ⟨rfl, hb⟩
    exact hI.put' (k := 1) (d := 4) (v := .bool true) (by decide) (by simp) (by simp) (by simp) (hI.wp.trans (hb.mono hI.wp.size))
  · intro X a w hX hdep hC hI; have e4 := hI.gk 1 rfl (hdep ⟨1, .data⟩ (by simp) rfl); go_simp; exact hI.p 2 5 hI.wp (v := .bool true)
  · intro X a w hX hdep hC hI; have e1 := hI.gi 1 rfl; have e5 := hI.gk 2 rfl (hdep ⟨2, .guard⟩ (by simp) rfl); have f5 := slot_bool e5; go_simp; exact hI.p 3 6 hI.wp (v := .pointer (some ⟨B, 0, none⟩))
  · intro X a w hX hdep hC hI; have e6 := hI.gk 3 rfl (hdep ⟨3, .data⟩ (by simp) rfl); have e5 := hI.gk 2 rfl (hdep ⟨2, .guard⟩ (by simp) rfl); have f5 := slot_bool e5; have cc0 := (hI.wp.cell (p := ⟨B, 0, none⟩) z).trans c0; go_simp; exact hI.p 4 7 hI.wp (v := .int .u8 k)
  · intro X a w hX hdep hC hI; have e7 := hI.gk 4 rfl (hdep ⟨4, .data⟩ (by simp) rfl); have e5 := hI.gk 2 rfl (hdep ⟨2, .chain⟩ (by simp) rfl); have f5 := slot_bool e5; go_simp
    refine ⟨trivial, fun h => (by cases h), (hclear (n - 1) w).mono ?_⟩
    rintro e w' ⟨rfl, hb⟩
    exact hI.put' (k := 5) (d := 8) (v := .bool (K.clear k)) (by decide) (by simp) (by simp) (by simp) (hI.wp.trans (hb.mono hI.wp.size))
  · intro X a w hX hdep hC hI; have e5 := hI.gk 2 rfl (hdep ⟨2, .data⟩ (by simp) rfl); have e8 := hI.gk 5 rfl (hdep ⟨5, .data⟩ (by simp) rfl); go_simp; exact hI.p 6 9 hI.wp (v := .bool (K.clear k))
  · intro X a w hX hdep hC hI; have e9 := hI.gk 6 rfl (hdep ⟨6, .data⟩ (by simp) rfl); go_simp; exact hI.p 7 2 hI.wp (v := .bool (K.clear k))
  · intro X a w hX hI
    exact hQ a w hI.defers (hI.kn (7, 2, .bool (K.clear k)) (by simp) (hX 7 (by simp))) hI.wp
theorem r17_1f (n : Nat) (W : World) (B k v : Nat) (c0 : W.cell? ⟨B, 0, none⟩ = some (.int .u8 k)) (c1 : W.cell? ⟨B, 1, none⟩ = some (.int .u8 v)) (z : B < W.heap.size)
    (hmay : ∀ m W, CallsIn Fence.wide m Try.prog 30 #[.agg #[.int .u8 k, .int .u8 v]] W fun e w' => e = .returned (.bool false) ∧ Below W.heap.size W w')
    (Q : Exit → Act → World → Prop) (a : Act) (h0 : SR [(1, .pointer (some ⟨B, 0, none⟩))] 10 [] W a W)
    (hQ : ∀ a w, a.defers = [] → a.tmps[2]?.getD undef = .bool (false) → Below W.heap.size W w → Q .normal a w) : (regOf 1 C17).wpIn Fence.wide n Try.prog Q a W := by
  simp only [regOf, C17, Try.f17, Option.getD, Nat.reduceBEq, Bool.false_eq_true, if_true, if_false]
  refine region_seq (RI [(1, .pointer (some ⟨B, 0, none⟩))]
    [(0, 3, .agg #[.int .u8 k, .int .u8 v]), (1, 4, .bool false), (2, 5, .bool false), (6, 9, .bool false), (7, 2, .bool false)] 10 [] (fun _ w => Below W.heap.size W w)) (by kernel_rfl) ⟨h0.size, h0.defers, h0.kn, by simp, Below.refl _ _⟩ ⟨?_, ?_, ?_, ?_, ?_, ?_, ?_, ?_, trivial⟩ ?_
  · intro X a w hX hdep hC hI; have e1 := hI.gi 1 rfl; have cc0 := (hI.wp.cell (p := ⟨B, 0, none⟩) z).trans c0; have cc1 := (hI.wp.cell (p := ⟨B, 1, none⟩) z).trans c1; go_simp; exact hI.p 0 3 hI.wp (v := .agg #[.int .u8 k, .int .u8 v])
  · intro X a w hX hdep hC hI; have e3 := hI.gk 0 rfl (hdep ⟨0, .data⟩ (by simp) rfl); go_simp
    refine ⟨trivial, fun h => (by cases h), (hmay (n - 1) w).mono ?_⟩
    rintro e w' ⟨rfl, hb⟩
    exact hI.put' (k := 1) (d := 4) (v := .bool false) (by decide) (by simp) (by simp) (by simp) (hI.wp.trans (hb.mono hI.wp.size))
  · intro X a w hX hdep hC hI; have e4 := hI.gk 1 rfl (hdep ⟨1, .data⟩ (by simp) rfl); go_simp; exact hI.p 2 5 hI.wp (v := .bool false)
  · intro X a w hX hdep hC hI; have e1 := hI.gi 1 rfl; have e5 := hI.gk 2 rfl (hdep ⟨2, .guard⟩ (by simp) rfl); have f5 := slot_bool e5; go_simp; exact hI.p 3 6 hI.wp
  · intro X a w hX hdep hC hI; have e5 := hI.gk 2 rfl (hdep ⟨2, .guard⟩ (by simp) rfl); have f5 := slot_bool e5; have cc0 := (hI.wp.cell (p := ⟨B, 0, none⟩) z).trans c0; go_simp; exact hI.p 4 7 hI.wp
  · intro X a w hX hdep hC hI; have e5 := hI.gk 2 rfl (hdep ⟨2, .chain⟩ (by simp) rfl); have f5 := slot_bool e5; go_simp
    refine ⟨trivial, ?_⟩
    exact hI.p 5 8 hI.wp
  · intro X a w hX hdep hC hI; have e5 := hI.gk 2 rfl (hdep ⟨2, .data⟩ (by simp) rfl); go_simp; exact hI.p 6 9 hI.wp (v := .bool false)
  · intro X a w hX hdep hC hI; have e9 := hI.gk 6 rfl (hdep ⟨6, .data⟩ (by simp) rfl); go_simp; exact hI.p 7 2 hI.wp (v := .bool false)
  · intro X a w hX hI
    exact hQ a w hI.defers (hI.kn (7, 2, .bool (false)) (by simp) (hX 7 (by simp))) hI.wp
theorem open_in (n k v : Nat) (hk : k ≤ 255) (hv : v ≤ 255) (W : World) : CallsIn Fence.wide n Try.prog 17 #[.agg #[.int .u8 k, .int .u8 v]] W fun e w' => e = .returned (.bool (K.may k v && K.clear k)) ∧ Below W.heap.size W w' := by
  have hmay : ∀ m W, CallsIn Fence.wide m Try.prog 30 #[.agg #[.int .u8 k, .int .u8 v]] W fun e w' => e = .returned (.bool (K.may k v)) ∧ Below W.heap.size W w' := fun m W => callsIn_wide.2 (Kc.c30 k v (by omega) (by omega) (by omega) (by omega) W)
  have hclear : ∀ m W, CallsIn Fence.wide m Try.prog 31 #[.int .u8 k] W fun e w' => e = .returned (.bool (K.clear k)) ∧ Below W.heap.size W w' := fun m W => callsIn_wide.2 (Kc.c31 k (by omega) (by omega) W)
  refine callsIn_of_wp Try.func17 rfl trivial ?_
  show C17.wpIn _ _ _ _ _ _
  rw [show C17 = .seq (regOf 0 C17) (.seq (regOf 1 C17) .ret) from by kernel_rfl]
  refine wpIn_seq ?_
  refine r17_0 n W k v _ _ ⟨by simp [Try.ntmps17], rfl, by simp [Try.ntmps17], rfl⟩ ?_
  intro a1 h1
  refine wpIn_seq ?_
  have hbx := World.alloc_heap_new W (.cells #[.int .u8 k, .int .u8 v] 32)
  have hb0 : Below W.heap.size W (W.alloc (.cells #[.int .u8 k, .int .u8 v] 32)) := (Below.refl _ _).alloc (Nat.le_refl _) _
  have hsz : W.heap.size < (W.alloc (.cells #[.int .u8 k, .int .u8 v] 32)).heap.size := by simp
  generalize W.alloc (.cells #[.int .u8 k, .int .u8 v] 32) = W1 at h1 hbx hb0 hsz ⊢
  have fin : ∀ (b : Bool) a w, b = (K.may k v && K.clear k) → a.defers = [] → a.tmps[2]?.getD undef = .bool b → Below W1.heap.size W1 w →
      (Code.ret).wpIn Fence.wide n Try.prog (bodyPost Try.prog Try.f17 fun e w' => e = .returned (.bool (K.may k v && K.clear k)) ∧ Below W.heap.size W w') a w := by
    intro b a w hb hd h2 hbl
    refine wpIn_ret ⟨hd, _, results_tmp (t := 2) rfl _ _ _, ?_, hb0.trans (hbl.mono hb0.size)⟩
    rw [Array.getD_eq_getD_getElem?, h2, hb]
  obtain ⟨b, hm⟩ : ∃ b, K.may k v = b := ⟨_, rfl⟩
  cases b with
  | true =>
    rw [hm] at hmay
    refine r17_1t n W1 W.heap.size k v (by simp [World.cell?, hbx]) (by simp [World.cell?, hbx]) hsz hmay hclear _ a1 ⟨h1.size, h1.defers, h1.kn, rfl⟩ ?_
    intro a w hd h2 hbl
    exact fin _ a w (by rw [hm, Bool.true_and]) hd h2 hbl
  | false =>
    rw [hm] at hmay
    refine r17_1f n W1 W.heap.size k v (by simp [World.cell?, hbx]) (by simp [World.cell?, hbx]) hsz hmay _ a1 ⟨h1.size, h1.defers, h1.kn, rfl⟩ ?_
    intro a w hd h2 hbl
    exact fin _ a w (by rw [hm, Bool.false_and]) hd h2 hbl
end Go.Proofs.Ytmgiabehooghcaa
namespace Go.Proofs.Ytmgiabehooghcaa
open Go.RowKit Go.Shelf
attribute [local go_sem] Oper.semAt_some

theorem pair_sky (A B : List Nat) {N i : Nat} (h : i < N) : (pairsV A B N N)[i * 2]? = some (.int .u8 (A.getD i 0 : Nat)) := by
  rw [pairsV_get _ _ _ _ _ (by omega)]; unfold prow
  rw [if_pos (by omega), if_pos (by omega), show i * 2 / 2 = i from by omega]
theorem pair_lamp (A B : List Nat) {N i : Nat} (h : i < N) : (pairsV A B N N)[i * 2 + 1]? = some (.int .u8 (B.getD i 0 : Nat)) := by
  rw [pairsV_get _ _ _ _ _ (by omega)]; unfold prow
  rw [if_pos (by omega), if_neg (by omega), show (i * 2 + 1) / 2 = i from by omega]
def kd (A : Nat → Int) (s : Nat) : Nat := (A (s * 2)).toNat
def lv (A : Nat → Int) (s : Nat) : Nat := (A (s * 2 + 1)).toNat
def clA (A : Nat → Int) (s : Nat) : Bool := K.may (kd A s : Nat) (lv A s : Nat) && K.clear (kd A s : Nat)
def lmA (A : Nat → Int) (s : Nat) : Nat := (K.lamp (kd A s : Nat) (lv A s : Nat)).toNat
theorem lmA_le (A : Nat → Int) (s : Nat) : lmA A s ≤ 15 := by have := lamp_le (kd A s) (lv A s); unfold lmA; omega
theorem lmA_eq (A : Nat → Int) (s : Nat) : ((lmA A s : Nat) : Int) = K.lamp (kd A s : Nat) (lv A s : Nat) := by have := lamp_le (kd A s) (lv A s); unfold lmA; omega
structure Row2 (W : World) (g off N : Nat) (A : Nat → Int) : Prop where
  lt : g < W.heap.size
  cell : ∀ j, j < N * 2 → W.cell? ⟨g, off + j, none⟩ = some (.int .u8 (A j))
  rng : ∀ j, j < N * 2 → 0 ≤ A j ∧ A j ≤ 255
section
variable {W0 W w w' : World} {bs : List (Nat × Obj)} {X Y Z N g off cap : Nat} {A : Nat → Int}
theorem Row2.kind (h : Row2 W g off N A) {s : Nat} (hs : s < N) : W.cell? ⟨g, off + s * 2, none⟩ = some (.int .u8 (kd A s)) := by
  have := h.rng (s * 2) (by omega)
  rw [h.cell _ (by omega)]; unfold kd; rw [Int.toNat_of_nonneg this.1]
theorem Row2.level (h : Row2 W g off N A) {s : Nat} (hs : s < N) : W.cell? ⟨g, off + s * 2 + 1, none⟩ = some (.int .u8 (lv A s)) := by
  have := h.rng (s * 2 + 1) (by omega)
  rw [Nat.add_assoc, h.cell _ (by omega)]; unfold lv; rw [Int.toNat_of_nonneg this.1]
theorem Row2.kdle (h : Row2 W g off N A) {s : Nat} (hs : s < N) : kd A s ≤ 255 ∧ lv A s ≤ 255 := by
  have h1 := h.rng (s * 2) (by omega)
  have h2 := h.rng (s * 2 + 1) (by omega)
  unfold kd lv; omega
theorem Row2.below (h : Row2 w g off N A) (hb : Below w.heap.size w w') : Row2 w' g off N A := ⟨Nat.lt_of_lt_of_le h.lt hb.size, fun j hj => (hb.cell (p := ⟨g, off + j, none⟩) h.lt).trans (h.cell j hj), h.rng⟩
theorem Row2.old (h : Row2 W0 g off N A) (hh : Has W0 bs w) : Row2 w g off N A := ⟨Nat.lt_of_lt_of_le h.lt hh.bel.size, fun j hj => hh.old h.lt (h.cell j hj), h.rng⟩
theorem Row2.cells (h : Row2 W g off N A) (hN : N ≤ 262144) : Cells W (fun _ => False) N g off (kd A) (lv A) (clA A) :=
  ⟨hN, h.lt, fun h => h, fun _ hs => h.kind hs, fun _ hs => h.level hs, fun s hs W m => by have := h.kdle hs; exact clear_in m (kd A s) (lv A s) this.1 this.2 W⟩
theorem Row2.open_ (h : Row2 W g off N A) {s : Nat} (hs : s < N) (m : Nat) (w : World) : CallsIn Fence.wide m Try.prog 17 #[.agg #[.int .u8 (kd A s), .int .u8 (lv A s)]] w fun e w' => e = .returned (.bool (clA A s)) ∧ Below w.heap.size w w' := by
  have := h.kdle hs; exact open_in m (kd A s) (lv A s) this.1 this.2 w
theorem Row2.lamp (h : Row2 W g off N A) {s : Nat} (hs : s < N) (m : Nat) (w : World) : CallsIn Fence.wide m Try.prog 18 #[.agg #[.int .u8 (kd A s), .int .u8 (lv A s)]] w fun e w' => e = .returned (.int .u8 (lmA A s)) ∧ Below w.heap.size w w' := by
  have := h.kdle hs; rw [lmA_eq]; exact lamp_in m (kd A s) (lv A s) this.1 this.2 w
theorem light_has (n : Nat) (h : Row2 w g off N A) (hX : 1 ≤ X ∧ X ≤ 256) (hY : 1 ≤ Y ∧ Y ≤ 256) (hZ : 1 ≤ Z ∧ Z ≤ 256) (hNe : N = X * Y * Z) (hN : N ≤ 262144) (hh : Has W0 bs w) :
    CallsIn Fence.wide n Try.prog 14 #[.agg #[.int .i64 X, .int .i64 Y, .int .i64 Z, .slice (some ⟨g, off, none⟩) N cap]] w fun e w' => ∃ r, e = .returned (.tuple #[.slice (some ⟨r, 0, none⟩) N N, .int .i64 0]) ∧
      Has W0 ((r, .cells (pairsV (skyL X Y Z (clA A)) (lampL X Y Z (clA A) (lmA A)) N N) 37 (0, 0)) :: bs) w' := by
  refine (light_in n (h.cells hN) (lmA A) (fun s hs => ⟨lmA_le A s, fun m W => h.lamp hs m W⟩) hX hY hZ hNe).mono ?_
  rintro e w' ⟨r, rfl, h1, h2, h3⟩
  exact ⟨r, rfl, hh.add h3 h1 h2⟩
structure Arg (W0 : World) (X Y Z N g off : Nat) (A : Nat → Int) : Prop where
  x : 1 ≤ X ∧ X ≤ 256
  y : 1 ≤ Y ∧ Y ≤ 256
  z : 1 ≤ Z ∧ Z ≤ 256
  n : N = X * Y * Z
  le : N ≤ 262144
  row : Row2 W0 g off N A
theorem okS_iff {n : Int} : okS n = true ↔ 1 ≤ n ∧ n ≤ 256 := by unfold okS; simp
theorem chk_zero {X Y Z : Int} {len : Nat} (h : chk X Y Z len = 0) : (1 ≤ X ∧ X ≤ 256) ∧ (1 ≤ Y ∧ Y ≤ 256) ∧ (1 ≤ Z ∧ Z ≤ 256) ∧ X * Y * Z = (len : Int) ∧ len ≤ 262144 := by
  unfold chk at h
  split at h
  · rename_i h1
    simp only [Bool.and_eq_true] at h1
    obtain ⟨h1, h2, h3⟩ := h1
    split at h
    · cases h
    · split at h
      · rename_i h4 h5
        exact ⟨okS_iff.1 h1, okS_iff.1 h2, okS_iff.1 h3, h5, by omega⟩
      · cases h
  · cases h
theorem arg_of {M : Nat} {X Y Z : Int} {o : Option Addr} {len c : Nat} (hs : Sx.SlIn W0 [.u8, .u8] M (.slice o len c)) (h : chk X Y Z len = 0) :
    ∃ (x y z g off : Nat) (A : Nat → Int), X = x ∧ Y = y ∧ Z = z ∧ o = some ⟨g, off, none⟩ ∧ Arg W0 x y z len g off A := by
  obtain ⟨h1, h2, h3, h4, h5⟩ := chk_zero h
  obtain ⟨x, rfl⟩ : ∃ x : Nat, X = x := ⟨X.toNat, by omega⟩
  obtain ⟨y, rfl⟩ : ∃ y : Nat, Y = y := ⟨Y.toNat, by omega⟩
  obtain ⟨z, rfl⟩ : ∃ z : Nat, Z = z := ⟨Z.toNat, by omega⟩
  have h6 : len = x * y * z := by
    have : ((x * y * z : Nat) : Int) = (len : Int) := by rw [Int.natCast_mul, Int.natCast_mul]; exact h4
    omega
  have h7 : 1 ≤ x * y * z := Nat.mul_le_mul (Nat.mul_le_mul (show 1 ≤ x by omega) (show 1 ≤ y by omega)) (show 1 ≤ z by omega)
  cases hs with
  | nil => omega
  | empty => omega
  | row g off len cap A h0 hc hl hA hr =>
    obtain ⟨cs, t, fr, k1, k2, k3⟩ := hr.blk
    refine ⟨x, y, z, g, off, A, rfl, rfl, rfl, rfl, by omega, by omega, by omega, h6, h5, (Array.getElem?_eq_some_iff.1 k1).1, fun j hj => ?_, fun j hj => ?_⟩
    · have := k3 j hj
      simp only [World.cell?, k1, this]
      have : j % 2 = 0 ∨ j % 2 = 1 := by omega
      rcases this with e | e <;> simp [e]
    · have := hA j
      have e : j % 2 = 0 ∨ j % 2 = 1 := by omega
      simp only [List.length_cons, List.length_nil] at this
      rcases e with e | e <;> simp [e, IntKind.min, IntKind.max, IntKind.signed, IntKind.bits] at this <;> omega
theorem works_has (n : Nat) (m : Nat) (w : World) : CallsIn Fence.wide m Try.prog 13 #[] w fun e w' => e = .returned (.bool true) ∧ Below w.heap.size w w' := works_in m w
end
section
variable {X Y Z N : Nat} {cl : Nat → Bool} {lm : Nat → Nat}
theorem sky_fix (hX : X * Y * Z = N) : (∀ i, (skyL X Y Z cl).getD i 0 ≤ 15) ∧ Glow.Fix (Glow.sides X Y Z) cl (skyS cl (X * Z) Y) N fun i => (skyL X Y Z cl).getD i 0 := by
  subst hX
  exact skyL_fix (by rw [Nat.mul_comm X Y, Nat.mul_assoc])
theorem lamp_fix (hX : X * Y * Z = N) (hlm : ∀ i, lm i ≤ 15) : (∀ i, (lampL X Y Z cl lm).getD i 0 ≤ 15) ∧ Glow.Fix (Glow.sides X Y Z) cl lm N fun i => (lampL X Y Z cl lm).getD i 0 := by
  subst hX
  exact lampL_fix lm (fun i _ => hlm i)
end
theorem Glow.Fix.dark {sd : Nat → List Nat} {cl : Nat → Bool} {src V : Nat → Nat} {n : Nat} (h : Glow.Fix sd cl src n V) {i : Nat} (hi : i < n) (hc : cl i = false) : V i = 0 := by
  rw [h i hi, hc]; rfl
theorem Glow.Fix.near {sd : Nat → List Nat} {cl : Nat → Bool} {src V : Nat → Nat} {n : Nat} (h : Glow.Fix sd cl src n V) {i s : Nat} (hi : i < n) (hc : cl i = true) (hs : s ∈ sd i) : V s ≤ V i + 1 := by
  have h1 := h i hi
  rw [if_pos hc] at h1
  have := Glow.le_up (V := V) hs
  omega
end Go.Proofs.Ytmgiabehooghcaa
namespace Go.Proofs.Ytmgiabehooghcaa
open Go.RowKit Go.Shelf
attribute [local go_sem] Oper.semAt_some

theorem Stable.and {G H : World → Prop} (hG : Stable G) (hH : Stable H) : Stable fun w => G w ∧ H w := fun w w' h hb => ⟨hG w w' h.1 hb, hH w w' h.2 hb⟩
theorem ownsRow_below {w w' : World} {b e size n : Nat} {v : Value} {xs : List Value} (h : w.ownsRow b e size v n xs) (hb : Below w.heap.size w w') : w'.ownsRow b e size v n xs := by
  obtain ⟨h1, h2⟩ := h
  refine ⟨h1, h2.imp id ?_⟩
  rintro ⟨g, cap, cur, e1, e2, e3, e4⟩
  exact ⟨g, cap, cur, e1, e2, (hb.block g (Array.getElem?_eq_some_iff.1 e3).1).trans e3, e4⟩
theorem ownsRow_stable {b e size n : Nat} {v : Value} {xs : List Value} : Stable fun w => w.ownsRow b e size v n xs := fun _ _ h hb => ownsRow_below h hb
theorem ownsRow_shape {w : World} {b e size n : Nat} {v : Value} {xs : List Value} (h : w.ownsRow b e size v n xs) : ∃ qp qc, v = .slice qp n qc ∧ (0 < n → ∃ nb, qp = some ⟨nb, 0, none⟩) := by
  rcases h.2 with ⟨rfl, rfl⟩ | ⟨g, cap, _, rfl, _⟩
  · exact ⟨none, 0, rfl, fun h => absurd h (Nat.lt_irrefl _)⟩
  · exact ⟨_, _, rfl, fun _ => ⟨g, rfl⟩⟩
theorem ownsRow_cell {w : World} {b e n nb qc : Nat} {l : List Nat} (h : w.ownsRow b e 1 (.slice (some ⟨nb, 0, none⟩) n qc) n (intsV l)) {j s : Nat} (hs : l[j]? = some s) : w.cell? ⟨nb, j, none⟩ = some (.int .i64 s) := by
  obtain ⟨h1, h2⟩ := h
  rcases h2 with ⟨h2, _⟩ | ⟨g, cap, cur, e1, _, e3, _, _, _, e4⟩
  · cases h2
  · injection e1 with e1 _ _
    injection e1 with e1
    injection e1 with e1 _ _
    subst e1
    have hj : j < l.length := (List.getElem?_eq_some_iff.1 hs).1
    have : (cur.toList.take (n * 1))[j]? = some (.int .i64 s) := by rw [e4]; simp [intsV, hs]
    rw [List.getElem?_take] at this
    split at this
    · simp only [World.cell?, e3]; simpa using this
    · cases this
theorem SG.slot {kn : List (Nat × Value)} {sz : Nat} {G : World → Prop} {a : Act} {w : World} (h : SG kn sz G a w) {t : Nat} {v : Nat} {k : IntKind} (hp : (t, .int k v) ∈ kn) : slotN t a = v := slotN_of h.sr hp
theorem ownsRow_mono {w : World} {b b' e size n : Nat} {v : Value} {xs : List Value} (h : w.ownsRow b e size v n xs) (hb : b' ≤ b) : w.ownsRow b' e size v n xs := by
  obtain ⟨h1, h2⟩ := h
  refine ⟨h1, h2.imp id ?_⟩
  rintro ⟨g, cap, cur, e1, e2, e3, e4⟩
  exact ⟨g, cap, cur, e1, Nat.le_trans hb e2, e3, e4⟩
section
variable {W0 : World} {X Y Z N g off cap r B : Nat} {A : Nat → Int}
abbrev bs5 (X Y Z N g off cap r B : Nat) (A : Nat → Int) : List (Nat × Obj) := [(r, .cells (pairsV (skyL X Y Z (clA A)) (lampL X Y Z (clA A) (lmA A)) N N) 37 (0, 0)), (B, .cells #[.int .i64 X, .int .i64 Y, .int .i64 Z, .slice (some ⟨g, off, none⟩) N cap] 24 (0, 0))]
theorem lights5 {bs : List (Nat × Obj)} (hm : ∀ p ∈ bs5 X Y Z N g off cap r B A, p ∈ bs) {w : World} (hh : Has W0 bs w) {k : Nat} {v : Value} (hv : (pairsV (skyL X Y Z (clA A)) (lampL X Y Z (clA A) (lmA A)) N N)[k]? = some v) : w.cell? ⟨r, k, none⟩ = some v := hh.cell (t := 37) (fr := (0, 0)) (hm _ (by simp)) hv
theorem boxs5 {bs : List (Nat × Obj)} (hm : ∀ p ∈ bs5 X Y Z N g off cap r B A, p ∈ bs) {w : World} (hh : Has W0 bs w) {k : Nat} {v : Value} (hv : (#[.int .i64 X, .int .i64 Y, .int .i64 Z, .slice (some ⟨g, off, none⟩) N cap] : Array Value)[k]? = some v) : w.cell? ⟨B, k, none⟩ = some v := hh.cell (t := 24) (fr := (0, 0)) (hm _ (by simp)) hv
end
abbrev A5 (B r N i : Nat) : List (Nat × Value) := [(1, .pointer (some ⟨B, 0, none⟩)), (3, .slice (some ⟨r, 0, none⟩) N N), (5, .int .i64 i)]
theorem foldmax_eq (f : Nat → Nat) {l l' : List Nat} (h : ∀ s, s ∈ l ↔ s ∈ l') (a : Nat) : l.foldl (fun m s => max m (f s)) a = max a (l'.foldl (fun m s => max m (f s)) 0) := by
  have h1 := Glow.foldmax_ge f l a
  have h2 := Glow.foldmax_ge f l' 0
  refine Nat.le_antisymm ?_ ?_
  · rcases Glow.foldmax_of f l a with e | ⟨s, hs, e⟩
    · rw [e]; exact Nat.le_max_left _ _
    · rw [e]; exact Nat.le_trans (h2.2 s ((h s).1 hs)) (Nat.le_max_right _ _)
  · refine Nat.max_le.2 ⟨h1.1, ?_⟩
    rcases Glow.foldmax_of f l' 0 with e | ⟨s, hs, e⟩
    · rw [e]; exact Nat.zero_le _
    · rw [e]; exact h1.2 s ((h s).2 hs)
theorem skyS_iff {cl : Nat → Bool} {X Y Z N i : Nat} (hN : X * Y * Z = N) (hX : 1 ≤ X) (hZ : 1 ≤ Z) (hi : i < N) : (∀ m, i + m * (X * Z) < N → cl (i + m * (X * Z)) = true) ↔ i ∈ skyF cl (X * Z) Y (X * Z) := by
  have hl : 0 < X * Z := Nat.mul_pos hX hZ
  have hN' : N = Y * (X * Z) := by rw [← hN, Nat.mul_comm X Y, Nat.mul_assoc]
  rw [skyF_mem]
  constructor
  · intro h
    refine ⟨i % (X * Z), i / (X * Z), Nat.mod_lt _ hl, Nat.div_lt_of_lt_mul (by rw [Nat.mul_comm, ← hN']; exact hi), by rw [Nat.mul_comm]; exact (Nat.div_add_mod i (X * Z)).symm, fun y' h1 h2 => ?_⟩
    have e : y' * (X * Z) + i % (X * Z) = i + (y' - i / (X * Z)) * (X * Z) := by
      have h3 := Nat.div_add_mod i (X * Z)
      have h4 : y' * (X * Z) = i / (X * Z) * (X * Z) + (y' - i / (X * Z)) * (X * Z) := by rw [← Nat.add_mul]; congr 1; omega
      have h5 : X * Z * (i / (X * Z)) = i / (X * Z) * (X * Z) := Nat.mul_comm _ _
      omega
    rw [e]
    refine h _ ?_
    rw [← e, hN']
    have h6 := Nat.mod_lt i hl
    have h7 : (y' + 1) * (X * Z) ≤ Y * (X * Z) := Nat.mul_le_mul_right _ h2
    rw [Nat.add_mul] at h7; omega
  · rintro ⟨k, y, hk, hy, rfl, hc⟩ m hm
    have e : y * (X * Z) + k + m * (X * Z) = (y + m) * (X * Z) + k := by rw [Nat.add_mul]; omega
    rw [e]
    refine hc _ (by omega) ?_
    rw [e, hN'] at hm
    exact Nat.lt_of_mul_lt_mul_right (Nat.lt_of_le_of_lt (Nat.le_add_right _ _) hm)
theorem Has.swap {W0 w : World} {p q : Nat × Obj} {bs : List (Nat × Obj)} (h : Has W0 (p :: q :: bs) w) : Has W0 (q :: p :: bs) w := h.perm (List.Perm.swap _ _ _)
end Go.Proofs.Ytmgiabehooghcaa
