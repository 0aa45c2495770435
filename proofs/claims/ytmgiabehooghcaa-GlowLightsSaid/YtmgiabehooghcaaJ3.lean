/- Glow, by hand: part H3. -/
import Derived.RangeFuncNested
import Derived.RangeFuncBound
import Derived.RangeFuncCalls
import Derived.RangeFuncLeaves
import Derived.Shelf.Abstract
import Derived.Shelf.RegionOpen
import Derived.WalkKit
import Derived.OwnWalkIn
import Derived.TacticsInMore
import Derived.LoopNIn
import Derived.LoopIn
import Derived.Lib.Hide
import Derived.IntWalk
import Derived.Maps.AppendAt
import Derived.Test.YtmgiabehooghcaaKc
import Derived.Test.YtmgiabehooghcaaJ2
set_option linter.unusedVariables false
set_option linter.unusedSimpArgs false
set_option maxRecDepth 100000
set_option maxHeartbeats 4000000
namespace Go.Proofs.Ytmgiabehooghcaa
open Go.RowKit Go.Shelf
attribute [local go_sem] Oper.semAt_some

noncomputable def C25 : Code := Try.f25.body.getD .skip
theorem r25_0 (n : Nat) (W : World) (k v : Nat) (Q : Exit → Act → World → Prop) (a : Act) (h0 : SR [(0, .agg #[.int .u8 k, .int .u8 v])] 10 [] W a W)
    (hQ : ∀ a, SR [(1, .pointer (some ⟨W.heap.size, 0, none⟩))] 10 [] (W.alloc (.cells #[.int .u8 k, .int .u8 v] 32)) a (W.alloc (.cells #[.int .u8 k, .int .u8 v] 32)) → Q .normal a (W.alloc (.cells #[.int .u8 k, .int .u8 v] 32))) : (regOf 0 C25).wpIn Fence.wide n Try.prog Q a W := by
  simp only [regOf, C25, Try.f25, Option.getD, Nat.reduceBEq, Bool.false_eq_true, if_true, if_false]
  refine region_sq (fun k_ a w => match k_ with | 0 => SR [(0, .agg #[.int .u8 k, .int .u8 v])] 10 [] W a w | 1 => SR [(1, .pointer (some ⟨W.heap.size, 0, none⟩))] 10 [] (W.alloc (.cells #[.int .u8 k, .int .u8 v] 32)) a w | _ => SR [(1, .pointer (some ⟨W.heap.size, 0, none⟩))] 10 [] (W.alloc (.cells #[.int .u8 k, .int .u8 v] 32)) a w) h0 ⟨?_, ?_, trivial⟩ ?_
  · intro a w (hI : SR _ _ _ _ a w); have e0 := hI.g 0 rfl; obtain rfl := hI.wp; go_simp; exact hI.s 1
  · intro a w (hI : SR _ _ _ _ a w)
    obtain rfl : w = W.alloc (.cells #[.int .u8 k, .int .u8 v] 32) := hI.wp
    go_simp; exact hI.s 2
  · intro a w hI
    obtain rfl := hI.wp
    exact hQ a hI
theorem r25_1t (n : Nat) (W : World) (B k v : Nat) (c0 : W.cell? ⟨B, 0, none⟩ = some (.int .u8 k)) (c1 : W.cell? ⟨B, 1, none⟩ = some (.int .u8 v)) (z : B < W.heap.size)
    (hmay : ∀ m W, CallsIn Fence.wide m Try.prog 30 #[.agg #[.int .u8 k, .int .u8 v]] W fun e w' => e = .returned (.bool true) ∧ Below W.heap.size W w')
    (hclear : ∀ m W, CallsIn Fence.wide m Try.prog 31 #[.int .u8 k] W fun e w' => e = .returned (.bool (K.clear k)) ∧ Below W.heap.size W w')
    (Q : Exit → Act → World → Prop) (a : Act) (h0 : SR [(1, .pointer (some ⟨B, 0, none⟩))] 10 [] W a W)
    (hQ : ∀ a w, a.defers = [] → a.tmps[2]?.getD undef = .bool (K.clear k) → Below W.heap.size W w → Q .normal a w) : (regOf 1 C25).wpIn Fence.wide n Try.prog Q a W := by
  simp only [regOf, C25, Try.f25, Option.getD, Nat.reduceBEq, Bool.false_eq_true, if_true, if_false]
  refine region_seq (RI [(1, .pointer (some ⟨B, 0, none⟩))]
    [(0, 3, .agg #[.int .u8 k, .int .u8 v]), (1, 4, .bool true), (2, 5, .bool true), (3, 6, .pointer (some ⟨B, 0, none⟩)), (4, 7, .int .u8 k), (5, 8, .bool (K.clear k)), (6, 9, .bool (K.clear k)), (7, 2, .bool (K.clear k))] 10 [] (fun _ w => Below W.heap.size W w)) (by kernel_rfl) ⟨h0.size, h0.defers, h0.kn, by simp, Below.refl _ _⟩ ⟨?_, ?_, ?_, ?_, ?_, ?_, ?_, ?_, trivial⟩ ?_
  · intro X a w hX hdep hC hI; have e1 := hI.gi 1 rfl; have cc0 := (hI.wp.cell (p := ⟨B, 0, none⟩) z).trans c0; have cc1 := (hI.wp.cell (p := ⟨B, 1, none⟩) z).trans c1; go_simp; exact hI.p 0 3 hI.wp (v := .agg #[.int .u8 k, .int .u8 v])
  · intro X a w hX hdep hC hI; have e3 := hI.gk 0 rfl (hdep ⟨0, .data⟩ (by simp) rfl); go_simp
    refine ⟨trivial, fun h => (by cases h), (hmay (n - 1) w).mono ?_⟩
    rintro e w' ⟨rfl, hb⟩
    exact hI.put' (k := 1) (d := 4) (v := .bool true) (by decide) (by simp) (by simp) (by simp) (hI.wp.trans (hb.mono hI.wp.size))
  · intro X a w hX hdep hC hI; have e4 := hI.gk 1 rfl (hdep ⟨1, .data⟩ (by simp) rfl); go_simp; exact hI.p 2 5 hI.wp (v := .bool true)
  · intro X a w hX hdep hC hI; have e1 := hI.gi 1 rfl; have e5 := hI.gk 2 rfl (hdep ⟨2, .guard⟩ (by simp) rfl); have f5 := slot_bool e5; go_simp; exact hI.p 3 6 hI.wp (v := .pointer (some ⟨B, 0, none⟩))
  · intro X a w hX hdep hC hI; have e6 := hI.gk 3 rfl (hdep ⟨3, .data⟩ (by simp) rfl); have e5 := hI.gk 2 rfl (hdep ⟨2, .guard⟩ (by simp) rfl); have f5 := slot_bool e5; have cc0 := (hI.wp.cell (p := ⟨B, 0, none⟩) z).trans c0; go_simp; exact hI.p 4 7 hI.wp (v := .int .u8 k)
  · intro X a w hX hdep hC hI; have e7 := hI.gk 4 rfl (hdep ⟨4, .data⟩ (by simp) rfl); have e5 := hI.gk 2 rfl (hdep ⟨2, .chain⟩ (by simp) rfl); have f5 := slot_bool e5; go_simp
    refine ⟨trivial, fun h => (by cases h), (hclear (n - 1) w).mono ?_⟩
    rintro e w' ⟨rfl, hb⟩
    exact hI.put' (k := 5) (d := 8) (v := .bool (K.clear k)) (by decide) (by simp) (by simp) (by simp) (hI.wp.trans (hb.mono hI.wp.size))
  · intro X a w hX hdep hC hI; have e5 := hI.gk 2 rfl (hdep ⟨2, .data⟩ (by simp) rfl); have e8 := hI.gk 5 rfl (hdep ⟨5, .data⟩ (by simp) rfl); go_simp; exact hI.p 6 9 hI.wp (v := .bool (K.clear k))
  · intro X a w hX hdep hC hI; have e9 := hI.gk 6 rfl (hdep ⟨6, .data⟩ (by simp) rfl); go_simp; exact hI.p 7 2 hI.wp (v := .bool (K.clear k))
  · intro X a w hX hI
    exact hQ a w hI.defers (hI.kn (7, 2, .bool (K.clear k)) (by simp) (hX 7 (by simp))) hI.wp
theorem r25_1f (n : Nat) (W : World) (B k v : Nat) (c0 : W.cell? ⟨B, 0, none⟩ = some (.int .u8 k)) (c1 : W.cell? ⟨B, 1, none⟩ = some (.int .u8 v)) (z : B < W.heap.size)
    (hmay : ∀ m W, CallsIn Fence.wide m Try.prog 30 #[.agg #[.int .u8 k, .int .u8 v]] W fun e w' => e = .returned (.bool false) ∧ Below W.heap.size W w')
    (Q : Exit → Act → World → Prop) (a : Act) (h0 : SR [(1, .pointer (some ⟨B, 0, none⟩))] 10 [] W a W)
    (hQ : ∀ a w, a.defers = [] → a.tmps[2]?.getD undef = .bool (false) → Below W.heap.size W w → Q .normal a w) : (regOf 1 C25).wpIn Fence.wide n Try.prog Q a W := by
  simp only [regOf, C25, Try.f25, Option.getD, Nat.reduceBEq, Bool.false_eq_true, if_true, if_false]
  refine region_seq (RI [(1, .pointer (some ⟨B, 0, none⟩))]
    [(0, 3, .agg #[.int .u8 k, .int .u8 v]), (1, 4, .bool false), (2, 5, .bool false), (6, 9, .bool false), (7, 2, .bool false)] 10 [] (fun _ w => Below W.heap.size W w)) (by kernel_rfl) ⟨h0.size, h0.defers, h0.kn, by simp, Below.refl _ _⟩ ⟨?_, ?_, ?_, ?_, ?_, ?_, ?_, ?_, trivial⟩ ?_
  · intro X a w hX hdep hC hI; have e1 := hI.gi 1 rfl; have cc0 := (hI.wp.cell (p := ⟨B, 0, none⟩) z).trans c0; have cc1 := (hI.wp.cell (p := ⟨B, 1, none⟩) z).trans c1; go_simp; exact hI.p 0 3 hI.wp (v := .agg #[.int .u8 k, .int .u8 v])
  · intro X a w hX hdep hC hI; have e3 := hI.gk 0 rfl (hdep ⟨0, .data⟩ (by simp) rfl); go_simp
    refine ⟨trivial, fun h => (by cases h), (hmay (n - 1) w).mono ?_⟩
    rintro e w' ⟨rfl, hb⟩
    exact hI.put' (k := 1) (d := 4) (v := .bool false) (by decide) (by simp) (by simp) (by simp) (hI.wp.trans (hb.mono hI.wp.size))
  · intro X a w hX hdep hC hI; have e4 := hI.gk 1 rfl (hdep ⟨1, .data⟩ (by simp) rfl); go_simp; exact hI.p 2 5 hI.wp (v := .bool false)
  · intro X a w hX hdep hC hI; have e1 := hI.gi 1 rfl; have e5 := hI.gk 2 rfl (hdep ⟨2, .guard⟩ (by simp) rfl); have f5 := slot_bool e5; go_simp; exact hI.p 3 6 hI.wp
  · intro X a w hX hdep hC hI; have e5 := hI.gk 2 rfl (hdep ⟨2, .guard⟩ (by simp) rfl); have f5 := slot_bool e5; have cc0 := (hI.wp.cell (p := ⟨B, 0, none⟩) z).trans c0; go_simp; exact hI.p 4 7 hI.wp
  · intro X a w hX hdep hC hI; have e5 := hI.gk 2 rfl (hdep ⟨2, .chain⟩ (by simp) rfl); have f5 := slot_bool e5; go_simp
    refine ⟨trivial, ?_⟩
    exact hI.p 5 8 hI.wp
  · intro X a w hX hdep hC hI; have e5 := hI.gk 2 rfl (hdep ⟨2, .data⟩ (by simp) rfl); go_simp; exact hI.p 6 9 hI.wp (v := .bool false)
  · intro X a w hX hdep hC hI; have e9 := hI.gk 6 rfl (hdep ⟨6, .data⟩ (by simp) rfl); go_simp; exact hI.p 7 2 hI.wp (v := .bool false)
  · intro X a w hX hI
    exact hQ a w hI.defers (hI.kn (7, 2, .bool (false)) (by simp) (hX 7 (by simp))) hI.wp
theorem clear_in (n k v : Nat) (hk : k ≤ 255) (hv : v ≤ 255) (W : World) : CallsIn Fence.wide n Try.prog 25 #[.agg #[.int .u8 k, .int .u8 v]] W fun e w' => e = .returned (.bool (K.may k v && K.clear k)) ∧ Below W.heap.size W w' := by
  have hmay : ∀ m W, CallsIn Fence.wide m Try.prog 30 #[.agg #[.int .u8 k, .int .u8 v]] W fun e w' => e = .returned (.bool (K.may k v)) ∧ Below W.heap.size W w' := fun m W => callsIn_wide.2 (Kc.c30 k v (by omega) (by omega) (by omega) (by omega) W)
  have hclear : ∀ m W, CallsIn Fence.wide m Try.prog 31 #[.int .u8 k] W fun e w' => e = .returned (.bool (K.clear k)) ∧ Below W.heap.size W w' := fun m W => callsIn_wide.2 (Kc.c31 k (by omega) (by omega) W)
  refine callsIn_of_wp Try.func25 rfl trivial ?_
  show C25.wpIn _ _ _ _ _ _
  rw [show C25 = .seq (regOf 0 C25) (.seq (regOf 1 C25) .ret) from by kernel_rfl]
  refine wpIn_seq ?_
  refine r25_0 n W k v _ _ ⟨by simp [Try.ntmps25], rfl, by simp [Try.ntmps25], rfl⟩ ?_
  intro a1 h1
  refine wpIn_seq ?_
  have hbx := World.alloc_heap_new W (.cells #[.int .u8 k, .int .u8 v] 32)
  have hb0 : Below W.heap.size W (W.alloc (.cells #[.int .u8 k, .int .u8 v] 32)) := (Below.refl _ _).alloc (Nat.le_refl _) _
  have hsz : W.heap.size < (W.alloc (.cells #[.int .u8 k, .int .u8 v] 32)).heap.size := by simp
  generalize W.alloc (.cells #[.int .u8 k, .int .u8 v] 32) = W1 at h1 hbx hb0 hsz ⊢
  have fin : ∀ (b : Bool) a w, b = (K.may k v && K.clear k) → a.defers = [] → a.tmps[2]?.getD undef = .bool b → Below W1.heap.size W1 w →
      (Code.ret).wpIn Fence.wide n Try.prog (bodyPost Try.prog Try.f25 fun e w' => e = .returned (.bool (K.may k v && K.clear k)) ∧ Below W.heap.size W w') a w := by
    intro b a w hb hd h2 hbl
    refine wpIn_ret ⟨hd, _, results_tmp (t := 2) rfl _ _ _, ?_, hb0.trans (hbl.mono hb0.size)⟩
    rw [Array.getD_eq_getD_getElem?, h2, hb]
  obtain ⟨b, hm⟩ : ∃ b, K.may k v = b := ⟨_, rfl⟩
  cases b with
  | true =>
    rw [hm] at hmay
    refine r25_1t n W1 W.heap.size k v (by simp [World.cell?, hbx]) (by simp [World.cell?, hbx]) hsz hmay hclear _ a1 ⟨h1.size, h1.defers, h1.kn, rfl⟩ ?_
    intro a w hd h2 hbl
    exact fin _ a w (by rw [hm, Bool.true_and]) hd h2 hbl
  | false =>
    rw [hm] at hmay
    refine r25_1f n W1 W.heap.size k v (by simp [World.cell?, hbx]) (by simp [World.cell?, hbx]) hsz hmay _ a1 ⟨h1.size, h1.defers, h1.kn, rfl⟩ ?_
    intro a w hd h2 hbl
    exact fin _ a w (by rw [hm, Bool.false_and]) hd h2 hbl
theorem lamp_in (n k v : Nat) (hk : k ≤ 255) (hv : v ≤ 255) (W : World) : CallsIn Fence.wide n Try.prog 18 #[.agg #[.int .u8 k, .int .u8 v]] W fun e w' => e = .returned (.int .u8 (K.lamp k v)) ∧ Below W.heap.size W w' :=
  callsIn_wide.2 (Kc.c18 k v (by omega) (by omega) (by omega) (by omega) W)
end Go.Proofs.Ytmgiabehooghcaa
namespace Go.Proofs.Ytmgiabehooghcaa
open Go.RowKit Go.Shelf
attribute [local go_sem] Oper.semAt_some

noncomputable def C24 : Code := Try.f24.body.getD .skip
theorem elem3 (l : List Value) (i j : Nat) (h : i < l.length) (hj : i = j) (v : Value) (hv : l[j]? = some v) : v = l[i] := by
  subst hj
  rw [List.getElem?_eq_getElem h] at hv
  exact (Option.some.inj hv).symm
theorem lt3 : 3 < Try.prog.types.size := by
  have h : (Try.prog.types[3]?).isSome = true := by kernel_rfl
  rcases Nat.lt_or_ge 3 Try.prog.types.size with h1 | h1
  · exact h1
  · rw [Array.getElem?_eq_none h1] at h; cases h
theorem size3 : (Try.prog.types[3]'lt3).size = 1 := by kernel_rfl
theorem r24_0 (n : Nat) (W : World) (X Y Z : Int) (cv : Value) (Q : Exit → Act → World → Prop) (a : Act) (h0 : SR [(0, .agg #[.int .i64 X, .int .i64 Y, .int .i64 Z, cv])] 40 [] W a W)
    (hQ : ∀ a, SR [(1, .pointer (some ⟨W.heap.size, 0, none⟩))] 40 [] (W.alloc (.cells #[.int .i64 X, .int .i64 Y, .int .i64 Z, cv] 24)) a (W.alloc (.cells #[.int .i64 X, .int .i64 Y, .int .i64 Z, cv] 24)) → Q .normal a (W.alloc (.cells #[.int .i64 X, .int .i64 Y, .int .i64 Z, cv] 24))) : (regOf 0 C24).wpIn Fence.wide n Try.prog Q a W := by
  simp only [regOf, C24, Try.f24, Option.getD, Nat.reduceBEq, Bool.false_eq_true, if_true, if_false]
  refine region_sq (fun k_ a w => match k_ with | 0 => SR [(0, .agg #[.int .i64 X, .int .i64 Y, .int .i64 Z, cv])] 40 [] W a w | 1 => SR [(1, .pointer (some ⟨W.heap.size, 0, none⟩))] 40 [] (W.alloc (.cells #[.int .i64 X, .int .i64 Y, .int .i64 Z, cv] 24)) a w | _ => SR [(1, .pointer (some ⟨W.heap.size, 0, none⟩))] 40 [] (W.alloc (.cells #[.int .i64 X, .int .i64 Y, .int .i64 Z, cv] 24)) a w) h0 ⟨?_, ?_, trivial⟩ ?_
  · intro a w (hI : SR _ _ _ _ a w); have e0 := hI.g 0 rfl; obtain rfl := hI.wp; go_simp; exact hI.s 1
  · intro a w (hI : SR _ _ _ _ a w)
    obtain rfl : w = W.alloc (.cells #[.int .i64 X, .int .i64 Y, .int .i64 Z, cv] 24) := hI.wp
    go_simp; exact hI.s 2
  · intro a w (hI : SR _ _ _ _ a w)
    obtain rfl : w = W.alloc (.cells #[.int .i64 X, .int .i64 Y, .int .i64 Z, cv] 24) := hI.wp
    exact hQ a hI
theorem r24_1 (n : Nat) (W : World) (B : Nat) (X Y Z : Int) (cx : W.cell? ⟨B, 0, none⟩ = some (.int .i64 X)) (cy : W.cell? ⟨B, 1, none⟩ = some (.int .i64 Y)) (cz : W.cell? ⟨B, 2, none⟩ = some (.int .i64 Z)) (Q : Exit → Act → World → Prop) (a : Act) (h0 : SR [(1, .pointer (some ⟨B, 0, none⟩))] 40 [] W a W)
    (hQ : ∀ a, SR [(1, .pointer (some ⟨B, 0, none⟩)), (12, .agg #[.int .i64 X, .int .i64 Y, .int .i64 Z]), (13, .int .i64 0)] 40 [] W a W → Q .normal a W) : (regOf 1 C24).wpIn Fence.wide n Try.prog Q a W := by
  simp only [regOf, C24, Try.f24, Option.getD, Nat.reduceBEq, Bool.false_eq_true, if_true, if_false]
  refine region_sq (fun k_ a w => match k_ with | 0 => SR [(1, .pointer (some ⟨B, 0, none⟩))] 40 [] W a w | 1 => SR [(1, .pointer (some ⟨B, 0, none⟩)), (6, .pointer (some ⟨B, 0, none⟩))] 40 [] W a w | 2 => SR [(1, .pointer (some ⟨B, 0, none⟩)), (6, .pointer (some ⟨B, 0, none⟩)), (7, .int .i64 X)] 40 [] W a w | 3 => SR [(1, .pointer (some ⟨B, 0, none⟩)), (6, .pointer (some ⟨B, 0, none⟩)), (7, .int .i64 X), (8, .pointer (some ⟨B, 1, none⟩))] 40 [] W a w | 4 => SR [(1, .pointer (some ⟨B, 0, none⟩)), (6, .pointer (some ⟨B, 0, none⟩)), (7, .int .i64 X), (8, .pointer (some ⟨B, 1, none⟩)), (9, .int .i64 Y)] 40 [] W a w | 5 => SR [(1, .pointer (some ⟨B, 0, none⟩)), (6, .pointer (some ⟨B, 0, none⟩)), (7, .int .i64 X), (8, .pointer (some ⟨B, 1, none⟩)), (9, .int .i64 Y), (10, .pointer (some ⟨B, 2, none⟩))] 40 [] W a w | 6 => SR [(1, .pointer (some ⟨B, 0, none⟩)), (6, .pointer (some ⟨B, 0, none⟩)), (7, .int .i64 X), (8, .pointer (some ⟨B, 1, none⟩)), (9, .int .i64 Y), (10, .pointer (some ⟨B, 2, none⟩)), (11, .int .i64 Z)] 40 [] W a w | 7 => SR [(1, .pointer (some ⟨B, 0, none⟩)), (6, .pointer (some ⟨B, 0, none⟩)), (7, .int .i64 X), (8, .pointer (some ⟨B, 1, none⟩)), (9, .int .i64 Y), (10, .pointer (some ⟨B, 2, none⟩)), (11, .int .i64 Z), (12, .agg #[.int .i64 X, .int .i64 Y, .int .i64 Z])] 40 [] W a w | _ => SR [(1, .pointer (some ⟨B, 0, none⟩)), (6, .pointer (some ⟨B, 0, none⟩)), (7, .int .i64 X), (8, .pointer (some ⟨B, 1, none⟩)), (9, .int .i64 Y), (10, .pointer (some ⟨B, 2, none⟩)), (11, .int .i64 Z), (12, .agg #[.int .i64 X, .int .i64 Y, .int .i64 Z]), (13, .int .i64 0)] 40 [] W a w) h0 ⟨?_, ?_, ?_, ?_, ?_, ?_, ?_, ?_, trivial⟩ ?_
  · intro a w (hI : SR _ _ _ _ a w); have e1 := hI.g 1 rfl; obtain rfl := hI.wp; go_simp; exact hI.s 6
  · intro a w (hI : SR _ _ _ _ a w); have e6 := hI.g 6 rfl; obtain rfl := hI.wp; go_simp; exact hI.s 7
  · intro a w (hI : SR _ _ _ _ a w); have e1 := hI.g 1 rfl; obtain rfl := hI.wp; go_simp; exact hI.s 8
  · intro a w (hI : SR _ _ _ _ a w); have e8 := hI.g 8 rfl; obtain rfl := hI.wp; go_simp; exact hI.s 9
  · intro a w (hI : SR _ _ _ _ a w); have e1 := hI.g 1 rfl; obtain rfl := hI.wp; go_simp; exact hI.s 10
  · intro a w (hI : SR _ _ _ _ a w); have e10 := hI.g 10 rfl; obtain rfl := hI.wp; go_simp; exact hI.s 11
  · intro a w (hI : SR _ _ _ _ a w); have e7 := hI.g 7 rfl; have e9 := hI.g 9 rfl; have e11 := hI.g 11 rfl; obtain rfl := hI.wp; go_simp; exact hI.s 12
  · intro a w (hI : SR _ _ _ _ a w); obtain rfl := hI.wp; go_simp; exact hI.s 13
  · intro a w (hI : SR _ _ _ _ a w); obtain rfl := hI.wp
    exact hQ a (hI.sub (by intro p hp; simp only [List.mem_cons, List.not_mem_nil, or_false] at hp ⊢; rcases hp with h | h | h <;> simp [h]))
theorem r24_2_0 (n : Nat) (W : World) (B : Nat) (X Y Z : Int) (Q : Exit → Act → World → Prop) (a : Act) (h0 : SR [(1, .pointer (some ⟨B, 0, none⟩)), (12, .agg #[.int .i64 X, .int .i64 Y, .int .i64 Z]), (13, .int .i64 0)] 40 [] W a W)
    (hQ : ∀ a, SR [(1, .pointer (some ⟨B, 0, none⟩)), (12, .agg #[.int .i64 X, .int .i64 Y, .int .i64 Z]), (13, .int .i64 0), (14, .bool true)] 40 [] W a W → Q .normal a W) : (regOf 2 C24).wpIn Fence.wide n Try.prog Q a W := by
  simp only [regOf, C24, Try.f24, Option.getD, Nat.reduceBEq, Bool.false_eq_true, if_true, if_false]
  refine region_sq (fun k_ a w => match k_ with | 0 => SR [(1, .pointer (some ⟨B, 0, none⟩)), (12, .agg #[.int .i64 X, .int .i64 Y, .int .i64 Z]), (13, .int .i64 0)] 40 [] W a w | _ => SR [(1, .pointer (some ⟨B, 0, none⟩)), (12, .agg #[.int .i64 X, .int .i64 Y, .int .i64 Z]), (13, .int .i64 0), (14, .bool true)] 40 [] W a w) h0 ⟨?_, trivial⟩ ?_
  · intro a w (hI : SR _ _ _ _ a w); have e13 := hI.g 13 rfl; obtain rfl := hI.wp; go_simp; exact hI.s 14
  · intro a w (hI : SR _ _ _ _ a w); obtain rfl := hI.wp
    exact hQ a hI
theorem r24_3_0 (n : Nat) (W : World) (B : Nat) (X Y Z : Int) (Q : Exit → Act → World → Prop) (a : Act) (h0 : SR [(1, .pointer (some ⟨B, 0, none⟩)), (12, .agg #[.int .i64 X, .int .i64 Y, .int .i64 Z]), (13, .int .i64 0)] 40 [] W a W)
    (hQ : ∀ a, SR [(1, .pointer (some ⟨B, 0, none⟩)), (12, .agg #[.int .i64 X, .int .i64 Y, .int .i64 Z]), (13, .int .i64 0), (4, .int .i64 X)] 40 [] W a W → Q .normal a W) : (regOf 3 C24).wpIn Fence.wide n Try.prog Q a W := by
  simp only [regOf, C24, Try.f24, Option.getD, Nat.reduceBEq, Bool.false_eq_true, if_true, if_false]
  refine region_sq (fun k_ a w => match k_ with | 0 => SR [(1, .pointer (some ⟨B, 0, none⟩)), (12, .agg #[.int .i64 X, .int .i64 Y, .int .i64 Z]), (13, .int .i64 0)] 40 [] W a w | 1 => SR [(1, .pointer (some ⟨B, 0, none⟩)), (12, .agg #[.int .i64 X, .int .i64 Y, .int .i64 Z]), (13, .int .i64 0), (15, .int .i64 X)] 40 [] W a w | _ => SR [(1, .pointer (some ⟨B, 0, none⟩)), (12, .agg #[.int .i64 X, .int .i64 Y, .int .i64 Z]), (13, .int .i64 0), (15, .int .i64 X), (4, .int .i64 X)] 40 [] W a w) h0 ⟨?_, ?_, trivial⟩ ?_
  · intro a w (hI : SR _ _ _ _ a w); have e12 := hI.g 12 rfl; have e13 := hI.g 13 rfl; obtain rfl := hI.wp
    have hsz := size3
    go_simp; exact hI.s 15
  · intro a w (hI : SR _ _ _ _ a w); have e15 := hI.g 15 rfl; obtain rfl := hI.wp; go_simp; exact hI.s 4
  · intro a w (hI : SR _ _ _ _ a w); obtain rfl := hI.wp
    exact hQ a (hI.sub (by intro p hp; simp only [List.mem_cons, List.not_mem_nil, or_false] at hp ⊢; rcases hp with h | h | h | h <;> simp [h]))
theorem r24_6_0 (n : Nat) (W : World) (B : Nat) (X Y Z : Int) (Q : Exit → Act → World → Prop) (a : Act) (h0 : SR [(1, .pointer (some ⟨B, 0, none⟩)), (12, .agg #[.int .i64 X, .int .i64 Y, .int .i64 Z]), (13, .int .i64 0)] 40 [] W a W)
    (hQ : ∀ a, SR [(1, .pointer (some ⟨B, 0, none⟩)), (12, .agg #[.int .i64 X, .int .i64 Y, .int .i64 Z]), (13, .int .i64 1)] 40 [] W a W → Q .normal a W) : (regOf 6 C24).wpIn Fence.wide n Try.prog Q a W := by
  simp only [regOf, C24, Try.f24, Option.getD, Nat.reduceBEq, Bool.false_eq_true, if_true, if_false]
  refine region_sq (fun k_ a w => match k_ with | 0 => SR [(1, .pointer (some ⟨B, 0, none⟩)), (12, .agg #[.int .i64 X, .int .i64 Y, .int .i64 Z]), (13, .int .i64 0)] 40 [] W a w | 1 => SR [(1, .pointer (some ⟨B, 0, none⟩)), (12, .agg #[.int .i64 X, .int .i64 Y, .int .i64 Z]), (13, .int .i64 0), (22, .int .i64 1)] 40 [] W a w | _ => SR [(1, .pointer (some ⟨B, 0, none⟩)), (12, .agg #[.int .i64 X, .int .i64 Y, .int .i64 Z]), (22, .int .i64 1), (13, .int .i64 1)] 40 [] W a w) h0 ⟨?_, ?_, trivial⟩ ?_
  · intro a w (hI : SR _ _ _ _ a w); have e13 := hI.g 13 rfl; obtain rfl := hI.wp
    have hwj : IntKind.i64.wrap 1 = 1 := by decide
    go_simp; exact hI.s 22
  · intro a w (hI : SR _ _ _ _ a w); have e22 := hI.g 22 rfl; obtain rfl := hI.wp; go_simp; exact hI.s 13
  · intro a w (hI : SR _ _ _ _ a w); obtain rfl := hI.wp
    exact hQ a (hI.sub (by intro p hp; simp only [List.mem_cons, List.not_mem_nil, or_false] at hp ⊢; rcases hp with h | h | h <;> simp [h]))
theorem r24_2_1 (n : Nat) (W : World) (B : Nat) (X Y Z : Int) (Q : Exit → Act → World → Prop) (a : Act) (h0 : SR [(1, .pointer (some ⟨B, 0, none⟩)), (12, .agg #[.int .i64 X, .int .i64 Y, .int .i64 Z]), (13, .int .i64 1)] 40 [] W a W)
    (hQ : ∀ a, SR [(1, .pointer (some ⟨B, 0, none⟩)), (12, .agg #[.int .i64 X, .int .i64 Y, .int .i64 Z]), (13, .int .i64 1), (14, .bool true)] 40 [] W a W → Q .normal a W) : (regOf 2 C24).wpIn Fence.wide n Try.prog Q a W := by
  simp only [regOf, C24, Try.f24, Option.getD, Nat.reduceBEq, Bool.false_eq_true, if_true, if_false]
  refine region_sq (fun k_ a w => match k_ with | 0 => SR [(1, .pointer (some ⟨B, 0, none⟩)), (12, .agg #[.int .i64 X, .int .i64 Y, .int .i64 Z]), (13, .int .i64 1)] 40 [] W a w | _ => SR [(1, .pointer (some ⟨B, 0, none⟩)), (12, .agg #[.int .i64 X, .int .i64 Y, .int .i64 Z]), (13, .int .i64 1), (14, .bool true)] 40 [] W a w) h0 ⟨?_, trivial⟩ ?_
  · intro a w (hI : SR _ _ _ _ a w); have e13 := hI.g 13 rfl; obtain rfl := hI.wp; go_simp; exact hI.s 14
  · intro a w (hI : SR _ _ _ _ a w); obtain rfl := hI.wp
    exact hQ a hI
theorem r24_3_1 (n : Nat) (W : World) (B : Nat) (X Y Z : Int) (Q : Exit → Act → World → Prop) (a : Act) (h0 : SR [(1, .pointer (some ⟨B, 0, none⟩)), (12, .agg #[.int .i64 X, .int .i64 Y, .int .i64 Z]), (13, .int .i64 1)] 40 [] W a W)
    (hQ : ∀ a, SR [(1, .pointer (some ⟨B, 0, none⟩)), (12, .agg #[.int .i64 X, .int .i64 Y, .int .i64 Z]), (13, .int .i64 1), (4, .int .i64 Y)] 40 [] W a W → Q .normal a W) : (regOf 3 C24).wpIn Fence.wide n Try.prog Q a W := by
  simp only [regOf, C24, Try.f24, Option.getD, Nat.reduceBEq, Bool.false_eq_true, if_true, if_false]
  refine region_sq (fun k_ a w => match k_ with | 0 => SR [(1, .pointer (some ⟨B, 0, none⟩)), (12, .agg #[.int .i64 X, .int .i64 Y, .int .i64 Z]), (13, .int .i64 1)] 40 [] W a w | 1 => SR [(1, .pointer (some ⟨B, 0, none⟩)), (12, .agg #[.int .i64 X, .int .i64 Y, .int .i64 Z]), (13, .int .i64 1), (15, .int .i64 Y)] 40 [] W a w | _ => SR [(1, .pointer (some ⟨B, 0, none⟩)), (12, .agg #[.int .i64 X, .int .i64 Y, .int .i64 Z]), (13, .int .i64 1), (15, .int .i64 Y), (4, .int .i64 Y)] 40 [] W a w) h0 ⟨?_, ?_, trivial⟩ ?_
  · intro a w (hI : SR _ _ _ _ a w); have e12 := hI.g 12 rfl; have e13 := hI.g 13 rfl; obtain rfl := hI.wp
    have hsz := size3
    go_simp
    exact hI.put (d := 15) (by decide) (by simp; exact elem3 _ _ 1 _ (by rw [size3]) _ rfl)
  · intro a w (hI : SR _ _ _ _ a w); have e15 := hI.g 15 rfl; obtain rfl := hI.wp; go_simp; exact hI.s 4
  · intro a w (hI : SR _ _ _ _ a w); obtain rfl := hI.wp
    exact hQ a (hI.sub (by intro p hp; simp only [List.mem_cons, List.not_mem_nil, or_false] at hp ⊢; rcases hp with h | h | h | h <;> simp [h]))
theorem r24_6_1 (n : Nat) (W : World) (B : Nat) (X Y Z : Int) (Q : Exit → Act → World → Prop) (a : Act) (h0 : SR [(1, .pointer (some ⟨B, 0, none⟩)), (12, .agg #[.int .i64 X, .int .i64 Y, .int .i64 Z]), (13, .int .i64 1)] 40 [] W a W)
    (hQ : ∀ a, SR [(1, .pointer (some ⟨B, 0, none⟩)), (12, .agg #[.int .i64 X, .int .i64 Y, .int .i64 Z]), (13, .int .i64 2)] 40 [] W a W → Q .normal a W) : (regOf 6 C24).wpIn Fence.wide n Try.prog Q a W := by
  simp only [regOf, C24, Try.f24, Option.getD, Nat.reduceBEq, Bool.false_eq_true, if_true, if_false]
  refine region_sq (fun k_ a w => match k_ with | 0 => SR [(1, .pointer (some ⟨B, 0, none⟩)), (12, .agg #[.int .i64 X, .int .i64 Y, .int .i64 Z]), (13, .int .i64 1)] 40 [] W a w | 1 => SR [(1, .pointer (some ⟨B, 0, none⟩)), (12, .agg #[.int .i64 X, .int .i64 Y, .int .i64 Z]), (13, .int .i64 1), (22, .int .i64 2)] 40 [] W a w | _ => SR [(1, .pointer (some ⟨B, 0, none⟩)), (12, .agg #[.int .i64 X, .int .i64 Y, .int .i64 Z]), (22, .int .i64 2), (13, .int .i64 2)] 40 [] W a w) h0 ⟨?_, ?_, trivial⟩ ?_
  · intro a w (hI : SR _ _ _ _ a w); have e13 := hI.g 13 rfl; obtain rfl := hI.wp
    have hwj : IntKind.i64.wrap 2 = 2 := by decide
    go_simp; exact hI.s 22
  · intro a w (hI : SR _ _ _ _ a w); have e22 := hI.g 22 rfl; obtain rfl := hI.wp; go_simp; exact hI.s 13
  · intro a w (hI : SR _ _ _ _ a w); obtain rfl := hI.wp
    exact hQ a (hI.sub (by intro p hp; simp only [List.mem_cons, List.not_mem_nil, or_false] at hp ⊢; rcases hp with h | h | h <;> simp [h]))
theorem r24_2_2 (n : Nat) (W : World) (B : Nat) (X Y Z : Int) (Q : Exit → Act → World → Prop) (a : Act) (h0 : SR [(1, .pointer (some ⟨B, 0, none⟩)), (12, .agg #[.int .i64 X, .int .i64 Y, .int .i64 Z]), (13, .int .i64 2)] 40 [] W a W)
    (hQ : ∀ a, SR [(1, .pointer (some ⟨B, 0, none⟩)), (12, .agg #[.int .i64 X, .int .i64 Y, .int .i64 Z]), (13, .int .i64 2), (14, .bool true)] 40 [] W a W → Q .normal a W) : (regOf 2 C24).wpIn Fence.wide n Try.prog Q a W := by
  simp only [regOf, C24, Try.f24, Option.getD, Nat.reduceBEq, Bool.false_eq_true, if_true, if_false]
  refine region_sq (fun k_ a w => match k_ with | 0 => SR [(1, .pointer (some ⟨B, 0, none⟩)), (12, .agg #[.int .i64 X, .int .i64 Y, .int .i64 Z]), (13, .int .i64 2)] 40 [] W a w | _ => SR [(1, .pointer (some ⟨B, 0, none⟩)), (12, .agg #[.int .i64 X, .int .i64 Y, .int .i64 Z]), (13, .int .i64 2), (14, .bool true)] 40 [] W a w) h0 ⟨?_, trivial⟩ ?_
  · intro a w (hI : SR _ _ _ _ a w); have e13 := hI.g 13 rfl; obtain rfl := hI.wp; go_simp; exact hI.s 14
  · intro a w (hI : SR _ _ _ _ a w); obtain rfl := hI.wp
    exact hQ a hI
theorem r24_3_2 (n : Nat) (W : World) (B : Nat) (X Y Z : Int) (Q : Exit → Act → World → Prop) (a : Act) (h0 : SR [(1, .pointer (some ⟨B, 0, none⟩)), (12, .agg #[.int .i64 X, .int .i64 Y, .int .i64 Z]), (13, .int .i64 2)] 40 [] W a W)
    (hQ : ∀ a, SR [(1, .pointer (some ⟨B, 0, none⟩)), (12, .agg #[.int .i64 X, .int .i64 Y, .int .i64 Z]), (13, .int .i64 2), (4, .int .i64 Z)] 40 [] W a W → Q .normal a W) : (regOf 3 C24).wpIn Fence.wide n Try.prog Q a W := by
  simp only [regOf, C24, Try.f24, Option.getD, Nat.reduceBEq, Bool.false_eq_true, if_true, if_false]
  refine region_sq (fun k_ a w => match k_ with | 0 => SR [(1, .pointer (some ⟨B, 0, none⟩)), (12, .agg #[.int .i64 X, .int .i64 Y, .int .i64 Z]), (13, .int .i64 2)] 40 [] W a w | 1 => SR [(1, .pointer (some ⟨B, 0, none⟩)), (12, .agg #[.int .i64 X, .int .i64 Y, .int .i64 Z]), (13, .int .i64 2), (15, .int .i64 Z)] 40 [] W a w | _ => SR [(1, .pointer (some ⟨B, 0, none⟩)), (12, .agg #[.int .i64 X, .int .i64 Y, .int .i64 Z]), (13, .int .i64 2), (15, .int .i64 Z), (4, .int .i64 Z)] 40 [] W a w) h0 ⟨?_, ?_, trivial⟩ ?_
  · intro a w (hI : SR _ _ _ _ a w); have e12 := hI.g 12 rfl; have e13 := hI.g 13 rfl; obtain rfl := hI.wp
    have hsz := size3
    go_simp
    exact hI.put (d := 15) (by decide) (by simp; exact elem3 _ _ 2 _ (by rw [size3]) _ rfl)
  · intro a w (hI : SR _ _ _ _ a w); have e15 := hI.g 15 rfl; obtain rfl := hI.wp; go_simp; exact hI.s 4
  · intro a w (hI : SR _ _ _ _ a w); obtain rfl := hI.wp
    exact hQ a (hI.sub (by intro p hp; simp only [List.mem_cons, List.not_mem_nil, or_false] at hp ⊢; rcases hp with h | h | h | h <;> simp [h]))
theorem r24_6_2 (n : Nat) (W : World) (B : Nat) (X Y Z : Int) (Q : Exit → Act → World → Prop) (a : Act) (h0 : SR [(1, .pointer (some ⟨B, 0, none⟩)), (12, .agg #[.int .i64 X, .int .i64 Y, .int .i64 Z]), (13, .int .i64 2)] 40 [] W a W)
    (hQ : ∀ a, SR [(1, .pointer (some ⟨B, 0, none⟩)), (12, .agg #[.int .i64 X, .int .i64 Y, .int .i64 Z]), (13, .int .i64 3)] 40 [] W a W → Q .normal a W) : (regOf 6 C24).wpIn Fence.wide n Try.prog Q a W := by
  simp only [regOf, C24, Try.f24, Option.getD, Nat.reduceBEq, Bool.false_eq_true, if_true, if_false]
  refine region_sq (fun k_ a w => match k_ with | 0 => SR [(1, .pointer (some ⟨B, 0, none⟩)), (12, .agg #[.int .i64 X, .int .i64 Y, .int .i64 Z]), (13, .int .i64 2)] 40 [] W a w | 1 => SR [(1, .pointer (some ⟨B, 0, none⟩)), (12, .agg #[.int .i64 X, .int .i64 Y, .int .i64 Z]), (13, .int .i64 2), (22, .int .i64 3)] 40 [] W a w | _ => SR [(1, .pointer (some ⟨B, 0, none⟩)), (12, .agg #[.int .i64 X, .int .i64 Y, .int .i64 Z]), (22, .int .i64 3), (13, .int .i64 3)] 40 [] W a w) h0 ⟨?_, ?_, trivial⟩ ?_
  · intro a w (hI : SR _ _ _ _ a w); have e13 := hI.g 13 rfl; obtain rfl := hI.wp
    have hwj : IntKind.i64.wrap 3 = 3 := by decide
    go_simp; exact hI.s 22
  · intro a w (hI : SR _ _ _ _ a w); have e22 := hI.g 22 rfl; obtain rfl := hI.wp; go_simp; exact hI.s 13
  · intro a w (hI : SR _ _ _ _ a w); obtain rfl := hI.wp
    exact hQ a (hI.sub (by intro p hp; simp only [List.mem_cons, List.not_mem_nil, or_false] at hp ⊢; rcases hp with h | h | h <;> simp [h]))
theorem r24_2_3 (n : Nat) (W : World) (B : Nat) (X Y Z : Int) (Q : Exit → Act → World → Prop) (a : Act) (h0 : SR [(1, .pointer (some ⟨B, 0, none⟩)), (12, .agg #[.int .i64 X, .int .i64 Y, .int .i64 Z]), (13, .int .i64 3)] 40 [] W a W)
    (hQ : ∀ a, SR [(1, .pointer (some ⟨B, 0, none⟩)), (12, .agg #[.int .i64 X, .int .i64 Y, .int .i64 Z]), (13, .int .i64 3), (14, .bool false)] 40 [] W a W → Q .normal a W) : (regOf 2 C24).wpIn Fence.wide n Try.prog Q a W := by
  simp only [regOf, C24, Try.f24, Option.getD, Nat.reduceBEq, Bool.false_eq_true, if_true, if_false]
  refine region_sq (fun k_ a w => match k_ with | 0 => SR [(1, .pointer (some ⟨B, 0, none⟩)), (12, .agg #[.int .i64 X, .int .i64 Y, .int .i64 Z]), (13, .int .i64 3)] 40 [] W a w | _ => SR [(1, .pointer (some ⟨B, 0, none⟩)), (12, .agg #[.int .i64 X, .int .i64 Y, .int .i64 Z]), (13, .int .i64 3), (14, .bool false)] 40 [] W a w) h0 ⟨?_, trivial⟩ ?_
  · intro a w (hI : SR _ _ _ _ a w); have e13 := hI.g 13 rfl; obtain rfl := hI.wp; go_simp; exact hI.s 14
  · intro a w (hI : SR _ _ _ _ a w); obtain rfl := hI.wp
    exact hQ a hI
theorem r24_4t (n : Nat) (W : World) (B : Nat) (X Y Z nn : Int) (j : Int) (hc : nn < 1) (Q : Exit → Act → World → Prop) (a : Act) (h0 : SR [(1, .pointer (some ⟨B, 0, none⟩)), (12, .agg #[.int .i64 X, .int .i64 Y, .int .i64 Z]), (13, .int .i64 j), (4, .int .i64 nn)] 40 [] W a W)
    (hQ : ∀ a, SR [(1, .pointer (some ⟨B, 0, none⟩)), (12, .agg #[.int .i64 X, .int .i64 Y, .int .i64 Z]), (13, .int .i64 j), (4, .int .i64 nn), (21, .bool (true))] 40 [] W a W → Q .normal a W) : (regOf 4 C24).wpIn Fence.wide n Try.prog Q a W := by
  simp only [regOf, C24, Try.f24, Option.getD, Nat.reduceBEq, Bool.false_eq_true, if_true, if_false]
  refine region_sq (fun k_ a w => match k_ with | 0 => SR [(1, .pointer (some ⟨B, 0, none⟩)), (12, .agg #[.int .i64 X, .int .i64 Y, .int .i64 Z]), (13, .int .i64 j), (4, .int .i64 nn)] 40 [] W a w | 1 => SR [(1, .pointer (some ⟨B, 0, none⟩)), (12, .agg #[.int .i64 X, .int .i64 Y, .int .i64 Z]), (13, .int .i64 j), (4, .int .i64 nn), (16, .int .i64 nn)] 40 [] W a w | 2 => SR [(1, .pointer (some ⟨B, 0, none⟩)), (12, .agg #[.int .i64 X, .int .i64 Y, .int .i64 Z]), (13, .int .i64 j), (4, .int .i64 nn), (16, .int .i64 nn), (17, .bool true)] 40 [] W a w | 3 => SR [(1, .pointer (some ⟨B, 0, none⟩)), (12, .agg #[.int .i64 X, .int .i64 Y, .int .i64 Z]), (13, .int .i64 j), (4, .int .i64 nn), (17, .bool true), (18, .bool true)] 40 [] W a w | 4 => SR [(1, .pointer (some ⟨B, 0, none⟩)), (12, .agg #[.int .i64 X, .int .i64 Y, .int .i64 Z]), (13, .int .i64 j), (4, .int .i64 nn), (17, .bool true), (18, .bool true)] 40 [] W a w | 5 => SR [(1, .pointer (some ⟨B, 0, none⟩)), (12, .agg #[.int .i64 X, .int .i64 Y, .int .i64 Z]), (13, .int .i64 j), (4, .int .i64 nn), (17, .bool true), (18, .bool true)] 40 [] W a w | _ => SR [(1, .pointer (some ⟨B, 0, none⟩)), (12, .agg #[.int .i64 X, .int .i64 Y, .int .i64 Z]), (13, .int .i64 j), (4, .int .i64 nn), (21, .bool true)] 40 [] W a w) h0 ⟨?_, ?_, ?_, ?_, ?_, ?_, trivial⟩ ?_
  · intro a w (hI : SR _ _ _ _ a w); have e4 := hI.g 4 rfl; obtain rfl := hI.wp; go_simp; exact hI.s 16
  · intro a w (hI : SR _ _ _ _ a w); have e16 := hI.g 16 rfl; obtain rfl := hI.wp
    have hd : decide (nn < 1) = true := by simpa using hc
    go_simp; exact hI.s 17
  · intro a w (hI : SR _ _ _ _ a w); have e17 := hI.g 17 rfl; obtain rfl := hI.wp; go_simp; exact hI.s 18
  · intro a w (hI : SR _ _ _ _ a w); have e4 := hI.g 4 rfl; have e18 := hI.g 18 rfl; have f18 := slot_bool e18; obtain rfl := hI.wp; go_simp; exact hI.s 19
  · intro a w (hI : SR _ _ _ _ a w); have e18 := hI.g 18 rfl; have f18 := slot_bool e18; obtain rfl := hI.wp; go_simp; exact hI.s 20
  · intro a w (hI : SR _ _ _ _ a w); have e18 := hI.g 18 rfl; obtain rfl := hI.wp; go_simp; exact hI.s 21
  · intro a w (hI : SR _ _ _ _ a w); obtain rfl := hI.wp
    exact hQ a (hI.sub (by intro p hp; simp only [List.mem_cons, List.not_mem_nil, or_false] at hp ⊢; rcases hp with h | h | h | h | h <;> simp [h]))
theorem r24_4f (n : Nat) (W : World) (B : Nat) (X Y Z nn : Int) (j : Int) (hc : ¬ nn < 1) (Q : Exit → Act → World → Prop) (a : Act) (h0 : SR [(1, .pointer (some ⟨B, 0, none⟩)), (12, .agg #[.int .i64 X, .int .i64 Y, .int .i64 Z]), (13, .int .i64 j), (4, .int .i64 nn)] 40 [] W a W)
    (hQ : ∀ a, SR [(1, .pointer (some ⟨B, 0, none⟩)), (12, .agg #[.int .i64 X, .int .i64 Y, .int .i64 Z]), (13, .int .i64 j), (4, .int .i64 nn), (21, .bool (decide (256 < nn)))] 40 [] W a W → Q .normal a W) : (regOf 4 C24).wpIn Fence.wide n Try.prog Q a W := by
  simp only [regOf, C24, Try.f24, Option.getD, Nat.reduceBEq, Bool.false_eq_true, if_true, if_false]
  refine region_sq (fun k_ a w => match k_ with | 0 => SR [(1, .pointer (some ⟨B, 0, none⟩)), (12, .agg #[.int .i64 X, .int .i64 Y, .int .i64 Z]), (13, .int .i64 j), (4, .int .i64 nn)] 40 [] W a w | 1 => SR [(1, .pointer (some ⟨B, 0, none⟩)), (12, .agg #[.int .i64 X, .int .i64 Y, .int .i64 Z]), (13, .int .i64 j), (4, .int .i64 nn), (16, .int .i64 nn)] 40 [] W a w | 2 => SR [(1, .pointer (some ⟨B, 0, none⟩)), (12, .agg #[.int .i64 X, .int .i64 Y, .int .i64 Z]), (13, .int .i64 j), (4, .int .i64 nn), (16, .int .i64 nn), (17, .bool false)] 40 [] W a w | 3 => SR [(1, .pointer (some ⟨B, 0, none⟩)), (12, .agg #[.int .i64 X, .int .i64 Y, .int .i64 Z]), (13, .int .i64 j), (4, .int .i64 nn), (17, .bool false), (18, .bool false)] 40 [] W a w | 4 => SR [(1, .pointer (some ⟨B, 0, none⟩)), (12, .agg #[.int .i64 X, .int .i64 Y, .int .i64 Z]), (13, .int .i64 j), (4, .int .i64 nn), (17, .bool false), (18, .bool false), (19, .int .i64 nn)] 40 [] W a w | 5 => SR [(1, .pointer (some ⟨B, 0, none⟩)), (12, .agg #[.int .i64 X, .int .i64 Y, .int .i64 Z]), (13, .int .i64 j), (4, .int .i64 nn), (17, .bool false), (18, .bool false), (20, .bool (decide (256 < nn)))] 40 [] W a w | _ => SR [(1, .pointer (some ⟨B, 0, none⟩)), (12, .agg #[.int .i64 X, .int .i64 Y, .int .i64 Z]), (13, .int .i64 j), (4, .int .i64 nn), (21, .bool (decide (256 < nn)))] 40 [] W a w) h0 ⟨?_, ?_, ?_, ?_, ?_, ?_, trivial⟩ ?_
  · intro a w (hI : SR _ _ _ _ a w); have e4 := hI.g 4 rfl; obtain rfl := hI.wp; go_simp; exact hI.s 16
  · intro a w (hI : SR _ _ _ _ a w); have e16 := hI.g 16 rfl; obtain rfl := hI.wp
    have hd : decide (nn < 1) = false := by simpa using hc
    go_simp; exact hI.s 17
  · intro a w (hI : SR _ _ _ _ a w); have e17 := hI.g 17 rfl; obtain rfl := hI.wp; go_simp; exact hI.s 18
  · intro a w (hI : SR _ _ _ _ a w); have e4 := hI.g 4 rfl; have e18 := hI.g 18 rfl; have f18 := slot_bool e18; obtain rfl := hI.wp; go_simp; exact hI.s 19
  · intro a w (hI : SR _ _ _ _ a w); have e19 := hI.g 19 rfl; have e18 := hI.g 18 rfl; have f18 := slot_bool e18; obtain rfl := hI.wp; go_simp; exact hI.s 20
  · intro a w (hI : SR _ _ _ _ a w); have e18 := hI.g 18 rfl; have e20 := hI.g 20 rfl; obtain rfl := hI.wp; go_simp; exact hI.s 21
  · intro a w (hI : SR _ _ _ _ a w); obtain rfl := hI.wp
    exact hQ a hI
theorem r24_5 (n : Nat) (W : World) (B : Nat) (Q : Exit → Act → World → Prop) (a : Act) (h0 : SR [(1, .pointer (some ⟨B, 0, none⟩))] 40 [] W a W)
    (hQ : ∀ a, SR [(2, .int .i64 2)] 40 [] W a W → Q .normal a W) : (regOf 5 C24).wpIn Fence.wide n Try.prog Q a W := by
  simp only [regOf, C24, Try.f24, Option.getD, Nat.reduceBEq, Bool.false_eq_true, if_true, if_false]
  refine region_sq (fun k_ a w => match k_ with | 0 => SR [(1, .pointer (some ⟨B, 0, none⟩))] 40 [] W a w | _ => SR [(2, .int .i64 2)] 40 [] W a w) h0 ⟨?_, trivial⟩ ?_
  · intro a w (hI : SR _ _ _ _ a w); obtain rfl := hI.wp; go_simp; exact hI.s 2
  · intro a w (hI : SR _ _ _ _ a w); obtain rfl := hI.wp
    exact hQ a hI
theorem r24_9 (n : Nat) (W : World) (B : Nat) (Q : Exit → Act → World → Prop) (a : Act) (h0 : SR [(1, .pointer (some ⟨B, 0, none⟩))] 40 [] W a W)
    (hQ : ∀ a, SR [(2, .int .i64 3)] 40 [] W a W → Q .normal a W) : (regOf 9 C24).wpIn Fence.wide n Try.prog Q a W := by
  simp only [regOf, C24, Try.f24, Option.getD, Nat.reduceBEq, Bool.false_eq_true, if_true, if_false]
  refine region_sq (fun k_ a w => match k_ with | 0 => SR [(1, .pointer (some ⟨B, 0, none⟩))] 40 [] W a w | _ => SR [(2, .int .i64 3)] 40 [] W a w) h0 ⟨?_, trivial⟩ ?_
  · intro a w (hI : SR _ _ _ _ a w); obtain rfl := hI.wp; go_simp; exact hI.s 2
  · intro a w (hI : SR _ _ _ _ a w); obtain rfl := hI.wp
    exact hQ a hI
theorem r24_11 (n : Nat) (W : World) (B : Nat) (Q : Exit → Act → World → Prop) (a : Act) (h0 : SR [(1, .pointer (some ⟨B, 0, none⟩))] 40 [] W a W)
    (hQ : ∀ a, SR [(2, .int .i64 2)] 40 [] W a W → Q .normal a W) : (regOf 11 C24).wpIn Fence.wide n Try.prog Q a W := by
  simp only [regOf, C24, Try.f24, Option.getD, Nat.reduceBEq, Bool.false_eq_true, if_true, if_false]
  refine region_sq (fun k_ a w => match k_ with | 0 => SR [(1, .pointer (some ⟨B, 0, none⟩))] 40 [] W a w | _ => SR [(2, .int .i64 2)] 40 [] W a w) h0 ⟨?_, trivial⟩ ?_
  · intro a w (hI : SR _ _ _ _ a w); obtain rfl := hI.wp; go_simp; exact hI.s 2
  · intro a w (hI : SR _ _ _ _ a w); obtain rfl := hI.wp
    exact hQ a hI
theorem r24_12 (n : Nat) (W : World) (B : Nat) (Q : Exit → Act → World → Prop) (a : Act) (h0 : SR [(1, .pointer (some ⟨B, 0, none⟩))] 40 [] W a W)
    (hQ : ∀ a, SR [(2, .int .i64 0)] 40 [] W a W → Q .normal a W) : (regOf 12 C24).wpIn Fence.wide n Try.prog Q a W := by
  simp only [regOf, C24, Try.f24, Option.getD, Nat.reduceBEq, Bool.false_eq_true, if_true, if_false]
  refine region_sq (fun k_ a w => match k_ with | 0 => SR [(1, .pointer (some ⟨B, 0, none⟩))] 40 [] W a w | _ => SR [(2, .int .i64 0)] 40 [] W a w) h0 ⟨?_, trivial⟩ ?_
  · intro a w (hI : SR _ _ _ _ a w); obtain rfl := hI.wp; go_simp; exact hI.s 2
  · intro a w (hI : SR _ _ _ _ a w); obtain rfl := hI.wp
    exact hQ a hI
theorem r24_7 (n : Nat) (W : World) (B : Nat) (X Y Z : Int) (cx : W.cell? ⟨B, 0, none⟩ = some (.int .i64 X)) (cy : W.cell? ⟨B, 1, none⟩ = some (.int .i64 Y)) (cz : W.cell? ⟨B, 2, none⟩ = some (.int .i64 Z)) (h1 : IntKind.i64.wrap (X * Y) = X * Y) (h2 : IntKind.i64.wrap (X * Y * Z) = X * Y * Z) (Q : Exit → Act → World → Prop) (a : Act) (h0 : SR [(1, .pointer (some ⟨B, 0, none⟩))] 40 [] W a W)
    (hQ : ∀ a, SR [(1, .pointer (some ⟨B, 0, none⟩)), (5, .int .i64 (X * Y * Z))] 40 [] W a W → Q .normal a W) : (regOf 7 C24).wpIn Fence.wide n Try.prog Q a W := by
  simp only [regOf, C24, Try.f24, Option.getD, Nat.reduceBEq, Bool.false_eq_true, if_true, if_false]
  refine region_sq (fun k_ a w => match k_ with | 0 => SR [(1, .pointer (some ⟨B, 0, none⟩))] 40 [] W a w | 1 => SR [(1, .pointer (some ⟨B, 0, none⟩)), (23, .pointer (some ⟨B, 0, none⟩))] 40 [] W a w | 2 => SR [(1, .pointer (some ⟨B, 0, none⟩)), (23, .pointer (some ⟨B, 0, none⟩)), (24, .int .i64 X)] 40 [] W a w | 3 => SR [(1, .pointer (some ⟨B, 0, none⟩)), (23, .pointer (some ⟨B, 0, none⟩)), (24, .int .i64 X), (25, .pointer (some ⟨B, 1, none⟩))] 40 [] W a w | 4 => SR [(1, .pointer (some ⟨B, 0, none⟩)), (23, .pointer (some ⟨B, 0, none⟩)), (24, .int .i64 X), (25, .pointer (some ⟨B, 1, none⟩)), (26, .int .i64 Y)] 40 [] W a w | 5 => SR [(1, .pointer (some ⟨B, 0, none⟩)), (23, .pointer (some ⟨B, 0, none⟩)), (24, .int .i64 X), (25, .pointer (some ⟨B, 1, none⟩)), (26, .int .i64 Y), (27, .int .i64 (X * Y))] 40 [] W a w | 6 => SR [(1, .pointer (some ⟨B, 0, none⟩)), (23, .pointer (some ⟨B, 0, none⟩)), (24, .int .i64 X), (25, .pointer (some ⟨B, 1, none⟩)), (26, .int .i64 Y), (27, .int .i64 (X * Y)), (28, .pointer (some ⟨B, 2, none⟩))] 40 [] W a w | 7 => SR [(1, .pointer (some ⟨B, 0, none⟩)), (23, .pointer (some ⟨B, 0, none⟩)), (24, .int .i64 X), (25, .pointer (some ⟨B, 1, none⟩)), (26, .int .i64 Y), (27, .int .i64 (X * Y)), (28, .pointer (some ⟨B, 2, none⟩)), (29, .int .i64 Z)] 40 [] W a w | 8 => SR [(1, .pointer (some ⟨B, 0, none⟩)), (23, .pointer (some ⟨B, 0, none⟩)), (24, .int .i64 X), (25, .pointer (some ⟨B, 1, none⟩)), (26, .int .i64 Y), (27, .int .i64 (X * Y)), (28, .pointer (some ⟨B, 2, none⟩)), (29, .int .i64 Z), (30, .int .i64 (X * Y * Z))] 40 [] W a w | _ => SR [(1, .pointer (some ⟨B, 0, none⟩)), (23, .pointer (some ⟨B, 0, none⟩)), (24, .int .i64 X), (25, .pointer (some ⟨B, 1, none⟩)), (26, .int .i64 Y), (27, .int .i64 (X * Y)), (28, .pointer (some ⟨B, 2, none⟩)), (29, .int .i64 Z), (30, .int .i64 (X * Y * Z)), (5, .int .i64 (X * Y * Z))] 40 [] W a w) h0 ⟨?_, ?_, ?_, ?_, ?_, ?_, ?_, ?_, ?_, trivial⟩ ?_
  · intro a w (hI : SR _ _ _ _ a w); have e1 := hI.g 1 rfl; obtain rfl := hI.wp; go_simp; exact hI.s 23
  · intro a w (hI : SR _ _ _ _ a w); have e23 := hI.g 23 rfl; obtain rfl := hI.wp; go_simp; exact hI.s 24
  · intro a w (hI : SR _ _ _ _ a w); have e1 := hI.g 1 rfl; obtain rfl := hI.wp; go_simp; exact hI.s 25
  · intro a w (hI : SR _ _ _ _ a w); have e25 := hI.g 25 rfl; obtain rfl := hI.wp; go_simp; exact hI.s 26
  · intro a w (hI : SR _ _ _ _ a w); have e24 := hI.g 24 rfl; have e26 := hI.g 26 rfl; obtain rfl := hI.wp; go_simp; exact hI.s 27
  · intro a w (hI : SR _ _ _ _ a w); have e1 := hI.g 1 rfl; obtain rfl := hI.wp; go_simp; exact hI.s 28
  · intro a w (hI : SR _ _ _ _ a w); have e28 := hI.g 28 rfl; obtain rfl := hI.wp; go_simp; exact hI.s 29
  · intro a w (hI : SR _ _ _ _ a w); have e27 := hI.g 27 rfl; have e29 := hI.g 29 rfl; obtain rfl := hI.wp; go_simp; exact hI.s 30
  · intro a w (hI : SR _ _ _ _ a w); have e30 := hI.g 30 rfl; obtain rfl := hI.wp; go_simp; exact hI.s 5
  · intro a w (hI : SR _ _ _ _ a w); obtain rfl := hI.wp
    exact hQ a (hI.sub (by intro p hp; simp only [List.mem_cons, List.not_mem_nil, or_false] at hp ⊢; rcases hp with h | h <;> simp [h]))
theorem r24_8 (n : Nat) (W : World) (B : Nat) (m : Int) (Q : Exit → Act → World → Prop) (a : Act) (h0 : SR [(1, .pointer (some ⟨B, 0, none⟩)), (5, .int .i64 m)] 40 [] W a W)
    (hQ : ∀ a, SR [(1, .pointer (some ⟨B, 0, none⟩)), (5, .int .i64 m), (31, .bool (decide (262144 < m)))] 40 [] W a W → Q .normal a W) : (regOf 8 C24).wpIn Fence.wide n Try.prog Q a W := by
  simp only [regOf, C24, Try.f24, Option.getD, Nat.reduceBEq, Bool.false_eq_true, if_true, if_false]
  refine region_sq (fun k_ a w => match k_ with | 0 => SR [(1, .pointer (some ⟨B, 0, none⟩)), (5, .int .i64 m)] 40 [] W a w | 1 => SR [(1, .pointer (some ⟨B, 0, none⟩)), (5, .int .i64 m), (32, .int .i64 m)] 40 [] W a w | 2 => SR [(1, .pointer (some ⟨B, 0, none⟩)), (5, .int .i64 m), (33, .bool (decide (262144 < m)))] 40 [] W a w | _ => SR [(1, .pointer (some ⟨B, 0, none⟩)), (5, .int .i64 m), (31, .bool (decide (262144 < m)))] 40 [] W a w) h0 ⟨?_, ?_, ?_, trivial⟩ ?_
  · intro a w (hI : SR _ _ _ _ a w); have e5 := hI.g 5 rfl; obtain rfl := hI.wp; go_simp; exact hI.s 32
  · intro a w (hI : SR _ _ _ _ a w); have e32 := hI.g 32 rfl; obtain rfl := hI.wp; go_simp; exact hI.s 33
  · intro a w (hI : SR _ _ _ _ a w); have e33 := hI.g 33 rfl; obtain rfl := hI.wp; go_simp; exact hI.s 31
  · intro a w (hI : SR _ _ _ _ a w); obtain rfl := hI.wp
    exact hQ a hI
theorem r24_10 (n : Nat) (W : World) (B len c : Nat) (m : Int) (o : Option Addr) (c3 : W.cell? ⟨B, 3, none⟩ = some (.slice o len c)) (Q : Exit → Act → World → Prop) (a : Act) (h0 : SR [(1, .pointer (some ⟨B, 0, none⟩)), (5, .int .i64 m)] 40 [] W a W)
    (hQ : ∀ a, SR [(1, .pointer (some ⟨B, 0, none⟩)), (34, .bool (m != (len : Int)))] 40 [] W a W → Q .normal a W) : (regOf 10 C24).wpIn Fence.wide n Try.prog Q a W := by
  simp only [regOf, C24, Try.f24, Option.getD, Nat.reduceBEq, Bool.false_eq_true, if_true, if_false]
  refine region_sq (fun k_ a w => match k_ with | 0 => SR [(1, .pointer (some ⟨B, 0, none⟩)), (5, .int .i64 m)] 40 [] W a w | 1 => SR [(1, .pointer (some ⟨B, 0, none⟩)), (5, .int .i64 m), (35, .int .i64 m)] 40 [] W a w | 2 => SR [(1, .pointer (some ⟨B, 0, none⟩)), (5, .int .i64 m), (35, .int .i64 m), (36, .pointer (some ⟨B, 3, none⟩))] 40 [] W a w | 3 => SR [(1, .pointer (some ⟨B, 0, none⟩)), (5, .int .i64 m), (35, .int .i64 m), (37, .slice o len c)] 40 [] W a w | 4 => SR [(1, .pointer (some ⟨B, 0, none⟩)), (5, .int .i64 m), (35, .int .i64 m), (38, .int .i64 len)] 40 [] W a w | 5 => SR [(1, .pointer (some ⟨B, 0, none⟩)), (5, .int .i64 m), (39, .bool (m != (len : Int)))] 40 [] W a w | _ => SR [(1, .pointer (some ⟨B, 0, none⟩)), (5, .int .i64 m), (34, .bool (m != (len : Int)))] 40 [] W a w) h0 ⟨?_, ?_, ?_, ?_, ?_, ?_, trivial⟩ ?_
  · intro a w (hI : SR _ _ _ _ a w); have e5 := hI.g 5 rfl; obtain rfl := hI.wp; go_simp; exact hI.s 35
  · intro a w (hI : SR _ _ _ _ a w); have e1 := hI.g 1 rfl; obtain rfl := hI.wp; go_simp; exact hI.s 36
  · intro a w (hI : SR _ _ _ _ a w); have e36 := hI.g 36 rfl; obtain rfl := hI.wp; go_simp; exact hI.s 37
  · intro a w (hI : SR _ _ _ _ a w); have e37 := hI.g 37 rfl; obtain rfl := hI.wp; go_simp; exact hI.s 38
  · intro a w (hI : SR _ _ _ _ a w); have e35 := hI.g 35 rfl; have e38 := hI.g 38 rfl; obtain rfl := hI.wp; go_simp; exact hI.s 39
  · intro a w (hI : SR _ _ _ _ a w); have e39 := hI.g 39 rfl; obtain rfl := hI.wp; go_simp; exact hI.s 34
  · intro a w (hI : SR _ _ _ _ a w); obtain rfl := hI.wp
    exact hQ a (hI.sub (by intro p hp; simp only [List.mem_cons, List.not_mem_nil, or_false] at hp ⊢; rcases hp with h | h <;> simp [h]))
end Go.Proofs.Ytmgiabehooghcaa
namespace Go.Proofs.Ytmgiabehooghcaa
open Go.RowKit Go.Shelf
attribute [local go_sem] Oper.semAt_some

def okS (n : Int) : Bool := decide (1 ≤ n) && decide (n ≤ 256)
def chk (X Y Z : Int) (len : Nat) : Int := if (okS X && (okS Y && okS Z)) = true then (if 262144 < X * Y * Z then 3 else if X * Y * Z = (len : Int) then 0 else 2) else 2
noncomputable def Bd24 : Code := .block 1 (.seq (regOf 3 C24) (.seq (regOf 4 C24) (.cond (.tmp 21) (.seq (regOf 5 C24) .ret) .skip)))
noncomputable def Lp24 : Code := .seq (regOf 2 C24) (.seq (.cond (.tmp 14) .skip (.exit 0)) (.seq Bd24 (regOf 6 C24)))
noncomputable def Tl24 : Code := .block 2 (.seq (regOf 8 C24) (.cond (.tmp 31) (.seq (regOf 9 C24) .ret) (.seq (regOf 10 C24) (.cond (.tmp 34) (.seq (regOf 11 C24) .ret) .skip))))
theorem C24_eq : C24 = .seq (regOf 0 C24) (.seq (.seq (regOf 1 C24) (.block 0 (.loop Lp24))) (.seq (.seq (regOf 7 C24) Tl24) (.seq (regOf 12 C24) .ret))) := by kernel_rfl
def End24 (c : Int) (W : World) (a : Act) (w : World) : Prop := a.defers = [] ∧ a.tmps[2]?.getD undef = .int .i64 c ∧ w = W
section
variable {W : World} {B : Nat} {X Y Z : Int} {Q : Exit → Act → World → Prop} {n : Nat}
abbrev K24 (B : Nat) (X Y Z : Int) (j : Int) : List (Nat × Value) := [(1, .pointer (some ⟨B, 0, none⟩)), (12, .agg #[.int .i64 X, .int .i64 Y, .int .i64 Z]), (13, .int .i64 j)]
theorem look24 (nn j : Int) (a : Act) (h0 : SR (K24 B X Y Z j ++ [(4, .int .i64 nn)]) 40 [] W a W) (hgood : okS nn = true → ∀ a, SR (K24 B X Y Z j) 40 [] W a W → Q .normal a W) (hbad : okS nn = false → ∀ a, End24 2 W a W → Q .ret a W) :
    (Code.seq (regOf 4 C24) (.cond (.tmp 21) (.seq (regOf 5 C24) .ret) .skip)).wpIn Fence.wide n Try.prog Q a W := by
  have key : ∀ (b : Bool) a, b = !okS nn → SR (K24 B X Y Z j ++ [(4, .int .i64 nn), (21, .bool b)]) 40 [] W a W → (Code.cond (.tmp 21) (.seq (regOf 5 C24) .ret) .skip).wpIn Fence.wide n Try.prog Q a W := by
    intro b a hb h
    have e := h.kn (21, .bool b) (by simp)
    refine wpIn_cond (t := b) (by rw [eval_tmp]; exact e) ?_
    cases b with
    | true =>
      refine wpIn_seq ?_
      refine r24_5 n W B _ a (h.sub (by simp)) ?_
      intro a2 h2
      refine wpIn_ret (hbad ?_ a2 ⟨h2.defers, h2.kn (2, .int .i64 2) (by simp), rfl⟩)
      cases hh : okS nn with
      | true => rw [hh] at hb; cases hb
      | false => rfl
    | false =>
      refine wpIn_skip (hgood ?_ a (h.sub (by simp +contextual)))
      cases hh : okS nn with
      | true => rfl
      | false => rw [hh] at hb; cases hb
  refine wpIn_seq ?_
  by_cases hc : nn < 1
  · refine r24_4t n W B X Y Z nn j hc _ a (h0.sub (by simp)) ?_
    intro a1 h1
    refine key true a1 ?_ (h1.sub (by simp))
    unfold okS; simp; omega
  · refine r24_4f n W B X Y Z nn j hc _ a (h0.sub (by simp)) ?_
    intro a1 h1
    refine key (decide (256 < nn)) a1 ?_ (h1.sub (by simp))
    unfold okS
    rw [decide_eq_true (show 1 ≤ nn by omega), Bool.true_and, ← decide_not]
    congr 1
    exact propext ⟨fun h => by omega, fun h => by omega⟩
def slot13 (a : Act) : Nat := match a.tmps[13]?.getD undef with | .int _ v => v.toNat | _ => 0
theorem loop24 (a : Act) (h0 : SR (K24 B X Y Z 0) 40 [] W a W) (hgood : okS X = true → okS Y = true → okS Z = true → ∀ a, SR [(1, .pointer (some ⟨B, 0, none⟩))] 40 [] W a W → Q .normal a W)
    (hbad : (okS X && (okS Y && okS Z)) = false → ∀ a, End24 2 W a W → Q .ret a W) : (Code.block 0 (.loop Lp24)).wpIn Fence.wide n Try.prog Q a W := by
  refine wpIn_block (wpIn_loop (fun a w => w = W ∧ ((SR (K24 B X Y Z 0) 40 [] W a W) ∨ (okS X = true ∧ SR (K24 B X Y Z 1) 40 [] W a W) ∨ (okS X = true ∧ okS Y = true ∧ SR (K24 B X Y Z 2) 40 [] W a W) ∨ (okS X = true ∧ okS Y = true ∧ okS Z = true ∧ SR (K24 B X Y Z 3) 40 [] W a W)))
    (fun a _ => 3 - slot13 a) ⟨rfl, .inl h0⟩ ?_)
  rintro a w ⟨rfl, h⟩
  have es : ∀ (j : Nat) a, SR (K24 B X Y Z j) 40 [] w a w → slot13 a = j := fun j a h => by
    have := h.kn (13, .int .i64 j) (by simp)
    unfold slot13; rw [this]; exact Int.toNat_natCast j
  unfold Lp24 Bd24
  rcases h with h | ⟨hx, h⟩ | ⟨hx, hy, h⟩ | ⟨hx, hy, hz, h⟩
  · have e0 := es 0 a h
    refine wpIn_seq (r24_2_0 n w B X Y Z _ a (h.sub (by simp)) ?_)
    intro a1 h1
    refine wpIn_seq (wpIn_cond (t := true) (by rw [eval_tmp]; exact h1.kn (14, .bool true) (by simp)) (wpIn_skip ?_))
    refine wpIn_seq (wpIn_block (wpIn_seq (r24_3_0 n w B X Y Z _ a1 (h1.sub (by simp +contextual)) ?_)))
    intro a2 h2
    refine look24 (B := B) (X := X) (Y := Y) (Z := Z) X 0 a2 (h2.sub (by simp)) (fun hg a3 h3 => ?_) (fun hb a3 h3 => hbad (by rw [hb]; rfl) a3 h3)
    show (regOf 6 C24).wpIn _ _ _ _ _ _
    refine r24_6_0 n w B X Y Z _ a3 (h3.sub (by simp)) ?_
    intro a4 h4
    have h4' : SR (K24 B X Y Z 1) 40 [] w a4 w := h4.sub (by simp)
    exact ⟨⟨rfl, .inr (.inl ⟨hg, h4'⟩)⟩, by rw [e0, es 1 a4 h4']; omega⟩
  · have e0 := es 1 a h
    refine wpIn_seq (r24_2_1 n w B X Y Z _ a (h.sub (by simp)) ?_)
    intro a1 h1
    refine wpIn_seq (wpIn_cond (t := true) (by rw [eval_tmp]; exact h1.kn (14, .bool true) (by simp)) (wpIn_skip ?_))
    refine wpIn_seq (wpIn_block (wpIn_seq (r24_3_1 n w B X Y Z _ a1 (h1.sub (by simp +contextual)) ?_)))
    intro a2 h2
    refine look24 (B := B) (X := X) (Y := Y) (Z := Z) Y 1 a2 (h2.sub (by simp)) (fun hg a3 h3 => ?_) (fun hb a3 h3 => hbad (by rw [hb, hx]; rfl) a3 h3)
    show (regOf 6 C24).wpIn _ _ _ _ _ _
    refine r24_6_1 n w B X Y Z _ a3 (h3.sub (by simp)) ?_
    intro a4 h4
    have h4' : SR (K24 B X Y Z 2) 40 [] w a4 w := h4.sub (by simp)
    exact ⟨⟨rfl, .inr (.inr (.inl ⟨hx, hg, h4'⟩))⟩, by rw [e0, es 2 a4 h4']; omega⟩
  · have e0 := es 2 a h
    refine wpIn_seq (r24_2_2 n w B X Y Z _ a (h.sub (by simp)) ?_)
    intro a1 h1
    refine wpIn_seq (wpIn_cond (t := true) (by rw [eval_tmp]; exact h1.kn (14, .bool true) (by simp)) (wpIn_skip ?_))
    refine wpIn_seq (wpIn_block (wpIn_seq (r24_3_2 n w B X Y Z _ a1 (h1.sub (by simp +contextual)) ?_)))
    intro a2 h2
    refine look24 (B := B) (X := X) (Y := Y) (Z := Z) Z 2 a2 (h2.sub (by simp)) (fun hg a3 h3 => ?_) (fun hb a3 h3 => hbad (by rw [hb, hx, hy]; rfl) a3 h3)
    show (regOf 6 C24).wpIn _ _ _ _ _ _
    refine r24_6_2 n w B X Y Z _ a3 (h3.sub (by simp)) ?_
    intro a4 h4
    have h4' : SR (K24 B X Y Z 3) 40 [] w a4 w := h4.sub (by simp)
    exact ⟨⟨rfl, .inr (.inr (.inr ⟨hx, hy, hg, h4'⟩))⟩, by rw [e0, es 3 a4 h4']; omega⟩
  · refine wpIn_seq (r24_2_3 n w B X Y Z _ a (h.sub (by simp)) ?_)
    intro a1 h1
    refine wpIn_seq (wpIn_cond (t := false) (by rw [eval_tmp]; exact h1.kn (14, .bool false) (by simp)) (wpIn_exit ?_))
    exact hgood hx hy hz a1 (h1.sub (by simp))
end
theorem check_in (n : Nat) (X Y Z : Int) (o : Option Addr) (len c : Nat) (W : World) : CallsIn Fence.wide n Try.prog 24 #[.agg #[.int .i64 X, .int .i64 Y, .int .i64 Z, .slice o len c]] W fun e w' => e = .returned (.int .i64 (chk X Y Z len)) ∧ Below W.heap.size W w' := by
  refine callsIn_of_wp Try.func24 rfl trivial ?_
  show C24.wpIn _ _ _ _ _ _
  rw [C24_eq]
  refine wpIn_seq ?_
  refine r24_0 n W X Y Z (.slice o len c) _ _ ⟨by simp [Try.ntmps24], rfl, by simp [Try.ntmps24], rfl⟩ ?_
  intro a1 h1
  have hbx := World.alloc_heap_new W (.cells #[.int .i64 X, .int .i64 Y, .int .i64 Z, .slice o len c] 24)
  have hb0 : Below W.heap.size W (W.alloc (.cells #[.int .i64 X, .int .i64 Y, .int .i64 Z, .slice o len c] 24)) := (Below.refl _ _).alloc (Nat.le_refl _) _
  generalize W.alloc (.cells #[.int .i64 X, .int .i64 Y, .int .i64 Z, .slice o len c] 24) = W1 at h1 hbx hb0 ⊢
  have fin : ∀ {e : Exit} {cc : Int} a w, (e = .ret ∨ e = .normal) → cc = chk X Y Z len → End24 cc W1 a w → bodyPost Try.prog Try.f24 (fun e w' => e = .returned (.int .i64 (chk X Y Z len)) ∧ Below W.heap.size W w') e a w := by
    rintro e cc a w he hcc ⟨k1, k2, k3⟩
    subst k3
    have : a.defers = [] ∧ ∃ v, (results Try.f24 a.tmps).run Try.prog w = .ok v w ∧ (Ending.returned v = .returned (.int .i64 (chk X Y Z len)) ∧ Below W.heap.size W w) :=
      ⟨k1, _, results_tmp (t := 2) rfl _ _ _, by rw [Array.getD_eq_getD_getElem?, k2, hcc], hb0⟩
    rcases he with rfl | rfl <;> exact this
  have cx : W1.cell? ⟨W.heap.size, 0, none⟩ = some (.int .i64 X) := by simp [World.cell?, hbx]
  have cy : W1.cell? ⟨W.heap.size, 1, none⟩ = some (.int .i64 Y) := by simp [World.cell?, hbx]
  have cz : W1.cell? ⟨W.heap.size, 2, none⟩ = some (.int .i64 Z) := by simp [World.cell?, hbx]
  have c3 : W1.cell? ⟨W.heap.size, 3, none⟩ = some (.slice o len c) := by simp [World.cell?, hbx]
  refine wpIn_seq (wpIn_seq ?_)
  refine r24_1 n W1 W.heap.size X Y Z cx cy cz _ a1 ⟨h1.size, h1.defers, h1.kn, rfl⟩ ?_
  intro a2 h2
  simp only [Exit.then]
  refine loop24 (B := W.heap.size) (X := X) (Y := Y) (Z := Z) a2 (h2.sub (by simp)) (fun hx hy hz a3 h3 => ?_) (fun hb a3 h3 => fin a3 W1 (.inl rfl) (by unfold chk; rw [hb]; rfl) h3)
  have b1 : 1 ≤ X ∧ X ≤ 256 := by simpa [okS] using hx
  have b2 : 1 ≤ Y ∧ Y ≤ 256 := by simpa [okS] using hy
  have b3 : 1 ≤ Z ∧ Z ≤ 256 := by simpa [okS] using hz
  have hchk : chk X Y Z len = if 262144 < X * Y * Z then 3 else if X * Y * Z = (len : Int) then 0 else 2 := by unfold chk; rw [hx, hy, hz]; rfl
  have m1 : 0 ≤ X * Y := Int.mul_nonneg (by omega) (by omega)
  have m2 : X * Y ≤ 256 * 256 := Int.mul_le_mul b1.2 b2.2 (by omega) (by omega)
  have m3 : 0 ≤ X * Y * Z := Int.mul_nonneg m1 (by omega)
  have m4 : X * Y * Z ≤ 256 * 256 * 256 := Int.mul_le_mul m2 b3.2 (by omega) (by omega)
  simp only [Exit.then]
  refine wpIn_seq (wpIn_seq ?_)
  refine r24_7 n W1 W.heap.size X Y Z cx cy cz (IntWalk.i64_in _ (by omega)) (IntWalk.i64_in _ (by omega)) _ a3 h3 ?_
  intro a4 h4
  simp only [Exit.then]
  unfold Tl24
  refine wpIn_block (wpIn_seq ?_)
  refine r24_8 n W1 W.heap.size (X * Y * Z) _ a4 (h4.sub (by simp)) ?_
  intro a5 h5
  simp only [Exit.then]
  refine wpIn_cond (t := decide (262144 < X * Y * Z)) (by rw [eval_tmp]; exact h5.kn (31, _) (by simp)) ?_
  by_cases hl : 262144 < X * Y * Z
  · rw [decide_eq_true hl]
    refine wpIn_seq (r24_9 n W1 W.heap.size _ a5 (h5.sub (by simp)) ?_)
    intro a6 h6
    exact wpIn_ret (fin a6 W1 (.inl rfl) (by rw [hchk, if_pos hl]) ⟨h6.defers, h6.kn (2, .int .i64 3) (by simp), rfl⟩)
  · rw [decide_eq_false hl]
    refine wpIn_seq (r24_10 n W1 W.heap.size len c (X * Y * Z) o c3 _ a5 (h5.sub (by simp)) ?_)
    intro a6 h6
    simp only [Exit.then]
    refine wpIn_cond (t := X * Y * Z != (len : Int)) (by rw [eval_tmp]; exact h6.kn (34, _) (by simp)) ?_
    by_cases he : X * Y * Z = (len : Int)
    · rw [show (X * Y * Z != (len : Int)) = false from by simp [he]]
      refine wpIn_skip ?_
      show (Code.seq (regOf 12 C24) .ret).wpIn _ _ _ _ _ _
      refine wpIn_seq (r24_12 n W1 W.heap.size _ a6 (h6.sub (by simp)) ?_)
      intro a7 h7
      exact wpIn_ret (fin a7 W1 (.inl rfl) (by rw [hchk, if_neg hl, if_pos he]) ⟨h7.defers, h7.kn (2, .int .i64 0) (by simp), rfl⟩)
    · rw [show (X * Y * Z != (len : Int)) = true from by simp [he]]
      refine wpIn_seq (r24_11 n W1 W.heap.size _ a6 (h6.sub (by simp)) ?_)
      intro a7 h7
      exact wpIn_ret (fin a7 W1 (.inl rfl) (by rw [hchk, if_neg hl, if_neg he]) ⟨h7.defers, h7.kn (2, .int .i64 2) (by simp), rfl⟩)
end Go.Proofs.Ytmgiabehooghcaa
namespace Go.Proofs.Ytmgiabehooghcaa
open Go.RowKit Go.Shelf
attribute [local go_sem] Oper.semAt_some

noncomputable def C14 : Code := Try.f14.body.getD .skip
theorem info37 : (Try.prog.info? 37).map (fun i => (i.zero, i.size, i.bytes)) = some (some (.agg #[.int .u8 0, .int .u8 0]), 2, 2) := by kernel_rfl
theorem under28 : Try.prog.underlying 28 = some (.slice 37) := by kernel_rfl
theorem l0 (n : Nat) (W : World) (X Y Z : Int) (cv : Value) (Q : Exit → Act → World → Prop) (a : Act) (h0 : SR [(0, .agg #[.int .i64 X, .int .i64 Y, .int .i64 Z, cv])] 110 [] W a W)
    (hQ : ∀ a, SR [(1, .pointer (some ⟨W.heap.size, 0, none⟩))] 110 [] (W.alloc (.cells #[.int .i64 X, .int .i64 Y, .int .i64 Z, cv] 24)) a (W.alloc (.cells #[.int .i64 X, .int .i64 Y, .int .i64 Z, cv] 24)) → Q .normal a (W.alloc (.cells #[.int .i64 X, .int .i64 Y, .int .i64 Z, cv] 24))) : (regOf 0 C14).wpIn Fence.wide n Try.prog Q a W := by
  simp only [regOf, C14, Try.f14, Option.getD, Nat.reduceBEq, Bool.false_eq_true, if_true, if_false]
  refine region_sq (fun k_ a w => match k_ with | 0 => SR [(0, .agg #[.int .i64 X, .int .i64 Y, .int .i64 Z, cv])] 110 [] W a w | 1 => SR [(1, .pointer (some ⟨W.heap.size, 0, none⟩))] 110 [] (W.alloc (.cells #[.int .i64 X, .int .i64 Y, .int .i64 Z, cv] 24)) a w | 2 => SR [(1, .pointer (some ⟨W.heap.size, 0, none⟩))] 110 [] (W.alloc (.cells #[.int .i64 X, .int .i64 Y, .int .i64 Z, cv] 24)) a w | _ => SR [(1, .pointer (some ⟨W.heap.size, 0, none⟩))] 110 [] (W.alloc (.cells #[.int .i64 X, .int .i64 Y, .int .i64 Z, cv] 24)) a w) h0 ⟨?_, ?_, ?_, trivial⟩ ?_
  · intro a w (hI : SR _ _ _ _ a w); have e0 := hI.g 0 rfl; obtain rfl := hI.wp; go_simp; exact hI.s 1
  · intro a w (hI : SR _ _ _ _ a w)
    obtain rfl : w = W.alloc (.cells #[.int .i64 X, .int .i64 Y, .int .i64 Z, cv] 24) := hI.wp
    go_simp; exact hI.s 2
  · intro a w (hI : SR _ _ _ _ a w)
    obtain rfl : w = W.alloc (.cells #[.int .i64 X, .int .i64 Y, .int .i64 Z, cv] 24) := hI.wp
    go_simp; exact hI.s 3
  · intro a w (hI : SR _ _ _ _ a w)
    obtain rfl : w = W.alloc (.cells #[.int .i64 X, .int .i64 Y, .int .i64 Z, cv] 24) := hI.wp
    exact hQ a hI
theorem l2 (n : Nat) (W : World) (B : Nat) (e : Int) (Q : Exit → Act → World → Prop) (a : Act) (h0 : SR [(1, .pointer (some ⟨B, 0, none⟩)), (4, .int .i64 e)] 110 [] W a W)
    (hQ : ∀ a, SR [(1, .pointer (some ⟨B, 0, none⟩)), (4, .int .i64 e), (19, .bool (e != 0))] 110 [] W a W → Q .normal a W) : (regOf 2 C14).wpIn Fence.wide n Try.prog Q a W := by
  simp only [regOf, C14, Try.f14, Option.getD, Nat.reduceBEq, Bool.false_eq_true, if_true, if_false]
  refine region_sq (fun k_ a w => match k_ with | 0 => SR [(1, .pointer (some ⟨B, 0, none⟩)), (4, .int .i64 e)] 110 [] W a w | 1 => SR [(1, .pointer (some ⟨B, 0, none⟩)), (4, .int .i64 e), (18, .int .i64 e)] 110 [] W a w | _ => SR [(1, .pointer (some ⟨B, 0, none⟩)), (4, .int .i64 e), (18, .int .i64 e), (19, .bool (e != 0))] 110 [] W a w) h0 ⟨?_, ?_, trivial⟩ ?_
  · intro a w (hI : SR _ _ _ _ a w); have e4 := hI.g 4 rfl; obtain rfl := hI.wp; go_simp; exact hI.s 18
  · intro a w (hI : SR _ _ _ _ a w); have e18 := hI.g 18 rfl; obtain rfl := hI.wp; go_simp; exact hI.s 19
  · intro a w (hI : SR _ _ _ _ a w); obtain rfl := hI.wp
    exact hQ a (hI.sub (by intro p hp; simp only [List.mem_cons, List.not_mem_nil, or_false] at hp ⊢; rcases hp with h | h | h <;> simp [h]))
theorem l3 (n : Nat) (W : World) (B : Nat) (e : Int) (Q : Exit → Act → World → Prop) (a : Act) (h0 : SR [(1, .pointer (some ⟨B, 0, none⟩)), (4, .int .i64 e)] 110 [] W a W)
    (hQ : ∀ a, SR [(2, .slice none 0 0), (3, .int .i64 e)] 110 [] W a W → Q .normal a W) : (regOf 3 C14).wpIn Fence.wide n Try.prog Q a W := by
  simp only [regOf, C14, Try.f14, Option.getD, Nat.reduceBEq, Bool.false_eq_true, if_true, if_false]
  refine region_sq (fun k_ a w => match k_ with | 0 => SR [(1, .pointer (some ⟨B, 0, none⟩)), (4, .int .i64 e)] 110 [] W a w | 1 => SR [(1, .pointer (some ⟨B, 0, none⟩)), (4, .int .i64 e), (20, .int .i64 e)] 110 [] W a w | 2 => SR [(1, .pointer (some ⟨B, 0, none⟩)), (4, .int .i64 e), (20, .int .i64 e), (2, .slice none 0 0)] 110 [] W a w | _ => SR [(1, .pointer (some ⟨B, 0, none⟩)), (4, .int .i64 e), (20, .int .i64 e), (2, .slice none 0 0), (3, .int .i64 e)] 110 [] W a w) h0 ⟨?_, ?_, ?_, trivial⟩ ?_
  · intro a w (hI : SR _ _ _ _ a w); have e4 := hI.g 4 rfl; obtain rfl := hI.wp; go_simp; exact hI.s 20
  · intro a w (hI : SR _ _ _ _ a w); obtain rfl := hI.wp; go_simp; exact hI.s 2
  · intro a w (hI : SR _ _ _ _ a w); have e20 := hI.g 20 rfl; obtain rfl := hI.wp; go_simp; exact hI.s 3
  · intro a w (hI : SR _ _ _ _ a w); obtain rfl := hI.wp
    exact hQ a (hI.sub (by intro p hp; simp only [List.mem_cons, List.not_mem_nil, or_false] at hp ⊢; rcases hp with h | h <;> simp [h]))
theorem l4 (n : Nat) (W : World) (B : Nat) (Q : Exit → Act → World → Prop) (a : Act) (h0 : SR [(1, .pointer (some ⟨B, 0, none⟩))] 110 [] W a W)
    (hQ : ∀ a, SR [(1, .pointer (some ⟨B, 0, none⟩)), (5, .pointer (some ⟨W.heap.size, 0, none⟩)), (6, .pointer (some ⟨W.heap.size + 1, 0, none⟩))] 110 [] ((W.alloc (.cells #[.slice none 0 0, .slice none 0 0, .slice none 0 0, .slice none 0 0, .slice none 0 0, .slice none 0 0, .slice none 0 0, .slice none 0 0, .slice none 0 0, .slice none 0 0, .slice none 0 0, .slice none 0 0, .slice none 0 0, .slice none 0 0, .slice none 0 0, .slice none 0 0] 53)).alloc (.cells #[.slice none 0 0, .slice none 0 0, .slice none 0 0, .slice none 0 0, .slice none 0 0, .slice none 0 0, .slice none 0 0, .slice none 0 0, .slice none 0 0, .slice none 0 0, .slice none 0 0, .slice none 0 0, .slice none 0 0, .slice none 0 0, .slice none 0 0, .slice none 0 0] 53)) a ((W.alloc (.cells #[.slice none 0 0, .slice none 0 0, .slice none 0 0, .slice none 0 0, .slice none 0 0, .slice none 0 0, .slice none 0 0, .slice none 0 0, .slice none 0 0, .slice none 0 0, .slice none 0 0, .slice none 0 0, .slice none 0 0, .slice none 0 0, .slice none 0 0, .slice none 0 0] 53)).alloc (.cells #[.slice none 0 0, .slice none 0 0, .slice none 0 0, .slice none 0 0, .slice none 0 0, .slice none 0 0, .slice none 0 0, .slice none 0 0, .slice none 0 0, .slice none 0 0, .slice none 0 0, .slice none 0 0, .slice none 0 0, .slice none 0 0, .slice none 0 0, .slice none 0 0] 53)) → Q .normal a ((W.alloc (.cells #[.slice none 0 0, .slice none 0 0, .slice none 0 0, .slice none 0 0, .slice none 0 0, .slice none 0 0, .slice none 0 0, .slice none 0 0, .slice none 0 0, .slice none 0 0, .slice none 0 0, .slice none 0 0, .slice none 0 0, .slice none 0 0, .slice none 0 0, .slice none 0 0] 53)).alloc (.cells #[.slice none 0 0, .slice none 0 0, .slice none 0 0, .slice none 0 0, .slice none 0 0, .slice none 0 0, .slice none 0 0, .slice none 0 0, .slice none 0 0, .slice none 0 0, .slice none 0 0, .slice none 0 0, .slice none 0 0, .slice none 0 0, .slice none 0 0, .slice none 0 0] 53))) : (regOf 4 C14).wpIn Fence.wide n Try.prog Q a W := by
  simp only [regOf, C14, Try.f14, Option.getD, Nat.reduceBEq, Bool.false_eq_true, if_true, if_false]
  refine region_sq (fun k_ a w => match k_ with | 0 => SR [(1, .pointer (some ⟨B, 0, none⟩))] 110 [] W a w | 1 => SR [(1, .pointer (some ⟨B, 0, none⟩)), (5, .pointer (some ⟨W.heap.size, 0, none⟩))] 110 [] (W.alloc (.cells #[.slice none 0 0, .slice none 0 0, .slice none 0 0, .slice none 0 0, .slice none 0 0, .slice none 0 0, .slice none 0 0, .slice none 0 0, .slice none 0 0, .slice none 0 0, .slice none 0 0, .slice none 0 0, .slice none 0 0, .slice none 0 0, .slice none 0 0, .slice none 0 0] 53)) a w | _ => SR [(1, .pointer (some ⟨B, 0, none⟩)), (5, .pointer (some ⟨W.heap.size, 0, none⟩)), (6, .pointer (some ⟨W.heap.size + 1, 0, none⟩))] 110 [] ((W.alloc (.cells #[.slice none 0 0, .slice none 0 0, .slice none 0 0, .slice none 0 0, .slice none 0 0, .slice none 0 0, .slice none 0 0, .slice none 0 0, .slice none 0 0, .slice none 0 0, .slice none 0 0, .slice none 0 0, .slice none 0 0, .slice none 0 0, .slice none 0 0, .slice none 0 0] 53)).alloc (.cells #[.slice none 0 0, .slice none 0 0, .slice none 0 0, .slice none 0 0, .slice none 0 0, .slice none 0 0, .slice none 0 0, .slice none 0 0, .slice none 0 0, .slice none 0 0, .slice none 0 0, .slice none 0 0, .slice none 0 0, .slice none 0 0, .slice none 0 0, .slice none 0 0] 53)) a w) h0 ⟨?_, ?_, trivial⟩ ?_
  · intro a w (hI : SR _ _ _ _ a w); obtain rfl := hI.wp; go_simp; exact hI.s 5
  · intro a w (hI : SR _ _ _ _ a w)
    obtain rfl : w = W.alloc (.cells #[.slice none 0 0, .slice none 0 0, .slice none 0 0, .slice none 0 0, .slice none 0 0, .slice none 0 0, .slice none 0 0, .slice none 0 0, .slice none 0 0, .slice none 0 0, .slice none 0 0, .slice none 0 0, .slice none 0 0, .slice none 0 0, .slice none 0 0, .slice none 0 0] 53) := hI.wp
    go_simp; exact hI.s 6
  · intro a w (hI : SR _ _ _ _ a w)
    obtain rfl : w = (W.alloc (.cells #[.slice none 0 0, .slice none 0 0, .slice none 0 0, .slice none 0 0, .slice none 0 0, .slice none 0 0, .slice none 0 0, .slice none 0 0, .slice none 0 0, .slice none 0 0, .slice none 0 0, .slice none 0 0, .slice none 0 0, .slice none 0 0, .slice none 0 0, .slice none 0 0] 53)).alloc (.cells #[.slice none 0 0, .slice none 0 0, .slice none 0 0, .slice none 0 0, .slice none 0 0, .slice none 0 0, .slice none 0 0, .slice none 0 0, .slice none 0 0, .slice none 0 0, .slice none 0 0, .slice none 0 0, .slice none 0 0, .slice none 0 0, .slice none 0 0, .slice none 0 0] 53) := hI.wp
    exact hQ a hI
theorem l5 (n : Nat) (W : World) (B sB mB : Nat) (X Z : Int) (cx : W.cell? ⟨B, 0, none⟩ = some (.int .i64 X)) (cz : W.cell? ⟨B, 2, none⟩ = some (.int .i64 Z)) (hw : IntKind.i64.wrap (X * Z) = X * Z) (Q : Exit → Act → World → Prop) (a : Act) (h0 : SR [(1, .pointer (some ⟨B, 0, none⟩)), (5, .pointer (some ⟨sB, 0, none⟩)), (6, .pointer (some ⟨mB, 0, none⟩))] 110 [] W a W)
    (hQ : ∀ a, SR [(1, .pointer (some ⟨B, 0, none⟩)), (5, .pointer (some ⟨sB, 0, none⟩)), (6, .pointer (some ⟨mB, 0, none⟩)), (7, .int .i64 (X * Z))] 110 [] W a W → Q .normal a W) : (regOf 5 C14).wpIn Fence.wide n Try.prog Q a W := by
  simp only [regOf, C14, Try.f14, Option.getD, Nat.reduceBEq, Bool.false_eq_true, if_true, if_false]
  refine region_sq (fun k_ a w => match k_ with | 0 => SR [(1, .pointer (some ⟨B, 0, none⟩)), (5, .pointer (some ⟨sB, 0, none⟩)), (6, .pointer (some ⟨mB, 0, none⟩))] 110 [] W a w | 1 => SR [(1, .pointer (some ⟨B, 0, none⟩)), (5, .pointer (some ⟨sB, 0, none⟩)), (6, .pointer (some ⟨mB, 0, none⟩)), (21, .pointer (some ⟨B, 0, none⟩))] 110 [] W a w | 2 => SR [(1, .pointer (some ⟨B, 0, none⟩)), (5, .pointer (some ⟨sB, 0, none⟩)), (6, .pointer (some ⟨mB, 0, none⟩)), (21, .pointer (some ⟨B, 0, none⟩)), (22, .int .i64 X)] 110 [] W a w | 3 => SR [(1, .pointer (some ⟨B, 0, none⟩)), (5, .pointer (some ⟨sB, 0, none⟩)), (6, .pointer (some ⟨mB, 0, none⟩)), (21, .pointer (some ⟨B, 0, none⟩)), (22, .int .i64 X), (23, .pointer (some ⟨B, 2, none⟩))] 110 [] W a w | 4 => SR [(1, .pointer (some ⟨B, 0, none⟩)), (5, .pointer (some ⟨sB, 0, none⟩)), (6, .pointer (some ⟨mB, 0, none⟩)), (21, .pointer (some ⟨B, 0, none⟩)), (22, .int .i64 X), (23, .pointer (some ⟨B, 2, none⟩)), (24, .int .i64 Z)] 110 [] W a w | 5 => SR [(1, .pointer (some ⟨B, 0, none⟩)), (5, .pointer (some ⟨sB, 0, none⟩)), (6, .pointer (some ⟨mB, 0, none⟩)), (21, .pointer (some ⟨B, 0, none⟩)), (22, .int .i64 X), (23, .pointer (some ⟨B, 2, none⟩)), (24, .int .i64 Z), (25, .int .i64 (X * Z))] 110 [] W a w | _ => SR [(1, .pointer (some ⟨B, 0, none⟩)), (5, .pointer (some ⟨sB, 0, none⟩)), (6, .pointer (some ⟨mB, 0, none⟩)), (21, .pointer (some ⟨B, 0, none⟩)), (22, .int .i64 X), (23, .pointer (some ⟨B, 2, none⟩)), (24, .int .i64 Z), (25, .int .i64 (X * Z)), (7, .int .i64 (X * Z))] 110 [] W a w) h0 ⟨?_, ?_, ?_, ?_, ?_, ?_, trivial⟩ ?_
  · intro a w (hI : SR _ _ _ _ a w); have e1 := hI.g 1 rfl; obtain rfl := hI.wp; go_simp; exact hI.s 21
  · intro a w (hI : SR _ _ _ _ a w); have e21 := hI.g 21 rfl; obtain rfl := hI.wp; go_simp; exact hI.s 22
  · intro a w (hI : SR _ _ _ _ a w); have e1 := hI.g 1 rfl; obtain rfl := hI.wp; go_simp; exact hI.s 23
  · intro a w (hI : SR _ _ _ _ a w); have e23 := hI.g 23 rfl; obtain rfl := hI.wp; go_simp; exact hI.s 24
  · intro a w (hI : SR _ _ _ _ a w); have e22 := hI.g 22 rfl; have e24 := hI.g 24 rfl; obtain rfl := hI.wp; go_simp; exact hI.s 25
  · intro a w (hI : SR _ _ _ _ a w); have e25 := hI.g 25 rfl; obtain rfl := hI.wp; go_simp; exact hI.s 7
  · intro a w (hI : SR _ _ _ _ a w); obtain rfl := hI.wp
    exact hQ a (hI.sub (by intro p hp; simp only [List.mem_cons, List.not_mem_nil, or_false] at hp ⊢; rcases hp with h | h | h | h <;> simp [h]))
theorem l6 (n : Nat) (W : World) (B sB mB : Nat) (ly : Nat) (Q : Exit → Act → World → Prop) (a : Act) (h0 : SR [(1, .pointer (some ⟨B, 0, none⟩)), (5, .pointer (some ⟨sB, 0, none⟩)), (6, .pointer (some ⟨mB, 0, none⟩)), (7, .int .i64 ly)] 110 [] W a W)
    (hQ : ∀ a, SR [(1, .pointer (some ⟨B, 0, none⟩)), (5, .pointer (some ⟨sB, 0, none⟩)), (6, .pointer (some ⟨mB, 0, none⟩)), (7, .int .i64 ly), (26, .int .i64 ly), (27, .int .i64 0)] 110 [] W a W → Q .normal a W) : (regOf 6 C14).wpIn Fence.wide n Try.prog Q a W := by
  simp only [regOf, C14, Try.f14, Option.getD, Nat.reduceBEq, Bool.false_eq_true, if_true, if_false]
  refine region_sq (fun k_ a w => match k_ with | 0 => SR [(1, .pointer (some ⟨B, 0, none⟩)), (5, .pointer (some ⟨sB, 0, none⟩)), (6, .pointer (some ⟨mB, 0, none⟩)), (7, .int .i64 ly)] 110 [] W a w | 1 => SR [(1, .pointer (some ⟨B, 0, none⟩)), (5, .pointer (some ⟨sB, 0, none⟩)), (6, .pointer (some ⟨mB, 0, none⟩)), (7, .int .i64 ly), (26, .int .i64 ly)] 110 [] W a w | _ => SR [(1, .pointer (some ⟨B, 0, none⟩)), (5, .pointer (some ⟨sB, 0, none⟩)), (6, .pointer (some ⟨mB, 0, none⟩)), (7, .int .i64 ly), (26, .int .i64 ly), (27, .int .i64 0)] 110 [] W a w) h0 ⟨?_, ?_, trivial⟩ ?_
  · intro a w (hI : SR _ _ _ _ a w); have e7 := hI.g 7 rfl; obtain rfl := hI.wp; go_simp; exact hI.s 26
  · intro a w (hI : SR _ _ _ _ a w); obtain rfl := hI.wp; go_simp; exact hI.s 27
  · intro a w (hI : SR _ _ _ _ a w); obtain rfl := hI.wp
    exact hQ a hI
theorem l7 (n : Nat) (W : World) (B sB mB : Nat) (ly c : Nat) (Q : Exit → Act → World → Prop) (a : Act) (h0 : SR [(1, .pointer (some ⟨B, 0, none⟩)), (5, .pointer (some ⟨sB, 0, none⟩)), (6, .pointer (some ⟨mB, 0, none⟩)), (7, .int .i64 ly), (26, .int .i64 ly), (27, .int .i64 c)] 110 [] W a W)
    (hQ : ∀ a, SR [(1, .pointer (some ⟨B, 0, none⟩)), (5, .pointer (some ⟨sB, 0, none⟩)), (6, .pointer (some ⟨mB, 0, none⟩)), (7, .int .i64 ly), (26, .int .i64 ly), (27, .int .i64 c), (28, .bool (decide (c < ly)))] 110 [] W a W → Q .normal a W) : (regOf 7 C14).wpIn Fence.wide n Try.prog Q a W := by
  simp only [regOf, C14, Try.f14, Option.getD, Nat.reduceBEq, Bool.false_eq_true, if_true, if_false]
  refine region_sq (fun k_ a w => match k_ with | 0 => SR [(1, .pointer (some ⟨B, 0, none⟩)), (5, .pointer (some ⟨sB, 0, none⟩)), (6, .pointer (some ⟨mB, 0, none⟩)), (7, .int .i64 ly), (26, .int .i64 ly), (27, .int .i64 c)] 110 [] W a w | _ => SR [(1, .pointer (some ⟨B, 0, none⟩)), (5, .pointer (some ⟨sB, 0, none⟩)), (6, .pointer (some ⟨mB, 0, none⟩)), (7, .int .i64 ly), (26, .int .i64 ly), (27, .int .i64 c), (28, .bool (decide (c < ly)))] 110 [] W a w) h0 ⟨?_, trivial⟩ ?_
  · intro a w (hI : SR _ _ _ _ a w); have e27 := hI.g 27 rfl; have e26 := hI.g 26 rfl; obtain rfl := hI.wp; go_simp; exact hI.s 28
  · intro a w (hI : SR _ _ _ _ a w); obtain rfl := hI.wp
    exact hQ a hI
theorem l8 (n : Nat) (W : World) (B sB mB : Nat) (ly c : Nat) (Q : Exit → Act → World → Prop) (a : Act) (h0 : SR [(1, .pointer (some ⟨B, 0, none⟩)), (5, .pointer (some ⟨sB, 0, none⟩)), (6, .pointer (some ⟨mB, 0, none⟩)), (7, .int .i64 ly), (26, .int .i64 ly), (27, .int .i64 c)] 110 [] W a W)
    (hQ : ∀ a, SR [(1, .pointer (some ⟨B, 0, none⟩)), (5, .pointer (some ⟨sB, 0, none⟩)), (6, .pointer (some ⟨mB, 0, none⟩)), (7, .int .i64 ly), (26, .int .i64 ly), (27, .int .i64 c), (8, .int .i64 c)] 110 [] W a W → Q .normal a W) : (regOf 8 C14).wpIn Fence.wide n Try.prog Q a W := by
  simp only [regOf, C14, Try.f14, Option.getD, Nat.reduceBEq, Bool.false_eq_true, if_true, if_false]
  refine region_sq (fun k_ a w => match k_ with | 0 => SR [(1, .pointer (some ⟨B, 0, none⟩)), (5, .pointer (some ⟨sB, 0, none⟩)), (6, .pointer (some ⟨mB, 0, none⟩)), (7, .int .i64 ly), (26, .int .i64 ly), (27, .int .i64 c)] 110 [] W a w | 1 => SR [(1, .pointer (some ⟨B, 0, none⟩)), (5, .pointer (some ⟨sB, 0, none⟩)), (6, .pointer (some ⟨mB, 0, none⟩)), (7, .int .i64 ly), (26, .int .i64 ly), (27, .int .i64 c), (29, .int .i64 c)] 110 [] W a w | _ => SR [(1, .pointer (some ⟨B, 0, none⟩)), (5, .pointer (some ⟨sB, 0, none⟩)), (6, .pointer (some ⟨mB, 0, none⟩)), (7, .int .i64 ly), (26, .int .i64 ly), (27, .int .i64 c), (29, .int .i64 c), (8, .int .i64 c)] 110 [] W a w) h0 ⟨?_, ?_, trivial⟩ ?_
  · intro a w (hI : SR _ _ _ _ a w); have e27 := hI.g 27 rfl; obtain rfl := hI.wp; go_simp; exact hI.s 29
  · intro a w (hI : SR _ _ _ _ a w); have e29 := hI.g 29 rfl; obtain rfl := hI.wp; go_simp; exact hI.s 8
  · intro a w (hI : SR _ _ _ _ a w); obtain rfl := hI.wp
    exact hQ a (hI.sub (by intro p hp; simp only [List.mem_cons, List.not_mem_nil, or_false] at hp ⊢; rcases hp with h | h | h | h | h | h | h <;> simp [h]))
theorem l9 (n : Nat) (W : World) (B sB mB : Nat) (ly c : Nat) (Y : Int) (cy : W.cell? ⟨B, 1, none⟩ = some (.int .i64 Y)) (hw : IntKind.i64.wrap (Y - 1) = Y - 1) (Q : Exit → Act → World → Prop) (a : Act) (h0 : SR [(1, .pointer (some ⟨B, 0, none⟩)), (5, .pointer (some ⟨sB, 0, none⟩)), (6, .pointer (some ⟨mB, 0, none⟩)), (7, .int .i64 ly), (26, .int .i64 ly), (27, .int .i64 c), (8, .int .i64 c)] 110 [] W a W)
    (hQ : ∀ a, SR [(1, .pointer (some ⟨B, 0, none⟩)), (5, .pointer (some ⟨sB, 0, none⟩)), (6, .pointer (some ⟨mB, 0, none⟩)), (7, .int .i64 ly), (26, .int .i64 ly), (27, .int .i64 c), (8, .int .i64 c), (9, .int .i64 (Y - 1))] 110 [] W a W → Q .normal a W) : (regOf 9 C14).wpIn Fence.wide n Try.prog Q a W := by
  simp only [regOf, C14, Try.f14, Option.getD, Nat.reduceBEq, Bool.false_eq_true, if_true, if_false]
  refine region_sq (fun k_ a w => match k_ with | 0 => SR [(1, .pointer (some ⟨B, 0, none⟩)), (5, .pointer (some ⟨sB, 0, none⟩)), (6, .pointer (some ⟨mB, 0, none⟩)), (7, .int .i64 ly), (26, .int .i64 ly), (27, .int .i64 c), (8, .int .i64 c)] 110 [] W a w | 1 => SR [(1, .pointer (some ⟨B, 0, none⟩)), (5, .pointer (some ⟨sB, 0, none⟩)), (6, .pointer (some ⟨mB, 0, none⟩)), (7, .int .i64 ly), (26, .int .i64 ly), (27, .int .i64 c), (8, .int .i64 c), (30, .pointer (some ⟨B, 1, none⟩))] 110 [] W a w | 2 => SR [(1, .pointer (some ⟨B, 0, none⟩)), (5, .pointer (some ⟨sB, 0, none⟩)), (6, .pointer (some ⟨mB, 0, none⟩)), (7, .int .i64 ly), (26, .int .i64 ly), (27, .int .i64 c), (8, .int .i64 c), (30, .pointer (some ⟨B, 1, none⟩)), (31, .int .i64 Y)] 110 [] W a w | 3 => SR [(1, .pointer (some ⟨B, 0, none⟩)), (5, .pointer (some ⟨sB, 0, none⟩)), (6, .pointer (some ⟨mB, 0, none⟩)), (7, .int .i64 ly), (26, .int .i64 ly), (27, .int .i64 c), (8, .int .i64 c), (30, .pointer (some ⟨B, 1, none⟩)), (31, .int .i64 Y), (32, .int .i64 (Y - 1))] 110 [] W a w | _ => SR [(1, .pointer (some ⟨B, 0, none⟩)), (5, .pointer (some ⟨sB, 0, none⟩)), (6, .pointer (some ⟨mB, 0, none⟩)), (7, .int .i64 ly), (26, .int .i64 ly), (27, .int .i64 c), (8, .int .i64 c), (30, .pointer (some ⟨B, 1, none⟩)), (31, .int .i64 Y), (32, .int .i64 (Y - 1)), (9, .int .i64 (Y - 1))] 110 [] W a w) h0 ⟨?_, ?_, ?_, ?_, trivial⟩ ?_
  · intro a w (hI : SR _ _ _ _ a w); have e1 := hI.g 1 rfl; obtain rfl := hI.wp; go_simp; exact hI.s 30
  · intro a w (hI : SR _ _ _ _ a w); have e30 := hI.g 30 rfl; obtain rfl := hI.wp; go_simp; exact hI.s 31
  · intro a w (hI : SR _ _ _ _ a w); have e31 := hI.g 31 rfl; obtain rfl := hI.wp; go_simp; exact hI.s 32
  · intro a w (hI : SR _ _ _ _ a w); have e32 := hI.g 32 rfl; obtain rfl := hI.wp; go_simp; exact hI.s 9
  · intro a w (hI : SR _ _ _ _ a w); obtain rfl := hI.wp
    exact hQ a (hI.sub (by intro p hp; simp only [List.mem_cons, List.not_mem_nil, or_false] at hp ⊢; rcases hp with h | h | h | h | h | h | h | h <;> simp [h]))
theorem l11 (n : Nat) (W : World) (B sB mB : Nat) (ly c : Nat) (y : Int) (hw : IntKind.i64.wrap (y - 1) = y - 1) (Q : Exit → Act → World → Prop) (a : Act) (h0 : SR [(1, .pointer (some ⟨B, 0, none⟩)), (5, .pointer (some ⟨sB, 0, none⟩)), (6, .pointer (some ⟨mB, 0, none⟩)), (7, .int .i64 ly), (26, .int .i64 ly), (27, .int .i64 c), (8, .int .i64 c), (9, .int .i64 (y : Int))] 110 [] W a W)
    (hQ : ∀ a, SR [(1, .pointer (some ⟨B, 0, none⟩)), (5, .pointer (some ⟨sB, 0, none⟩)), (6, .pointer (some ⟨mB, 0, none⟩)), (7, .int .i64 ly), (26, .int .i64 ly), (27, .int .i64 c), (8, .int .i64 c), (9, .int .i64 (y - 1))] 110 [] W a W → Q .normal a W) : (regOf 11 C14).wpIn Fence.wide n Try.prog Q a W := by
  simp only [regOf, C14, Try.f14, Option.getD, Nat.reduceBEq, Bool.false_eq_true, if_true, if_false]
  refine region_sq (fun k_ a w => match k_ with | 0 => SR [(1, .pointer (some ⟨B, 0, none⟩)), (5, .pointer (some ⟨sB, 0, none⟩)), (6, .pointer (some ⟨mB, 0, none⟩)), (7, .int .i64 ly), (26, .int .i64 ly), (27, .int .i64 c), (8, .int .i64 c), (9, .int .i64 (y : Int))] 110 [] W a w | 1 => SR [(1, .pointer (some ⟨B, 0, none⟩)), (5, .pointer (some ⟨sB, 0, none⟩)), (6, .pointer (some ⟨mB, 0, none⟩)), (7, .int .i64 ly), (26, .int .i64 ly), (27, .int .i64 c), (8, .int .i64 c), (9, .int .i64 (y : Int)), (47, .int .i64 y)] 110 [] W a w | 2 => SR [(1, .pointer (some ⟨B, 0, none⟩)), (5, .pointer (some ⟨sB, 0, none⟩)), (6, .pointer (some ⟨mB, 0, none⟩)), (7, .int .i64 ly), (26, .int .i64 ly), (27, .int .i64 c), (8, .int .i64 c), (9, .int .i64 (y : Int)), (47, .int .i64 y), (48, .int .i64 (y - 1))] 110 [] W a w | _ => SR [(1, .pointer (some ⟨B, 0, none⟩)), (5, .pointer (some ⟨sB, 0, none⟩)), (6, .pointer (some ⟨mB, 0, none⟩)), (7, .int .i64 ly), (26, .int .i64 ly), (27, .int .i64 c), (8, .int .i64 c), (47, .int .i64 y), (48, .int .i64 (y - 1)), (9, .int .i64 (y - 1))] 110 [] W a w) h0 ⟨?_, ?_, ?_, trivial⟩ ?_
  · intro a w (hI : SR _ _ _ _ a w); have e9 := hI.g 9 rfl; obtain rfl := hI.wp; go_simp; exact hI.s 47
  · intro a w (hI : SR _ _ _ _ a w); have e47 := hI.g 47 rfl; obtain rfl := hI.wp; go_simp; exact hI.s 48
  · intro a w (hI : SR _ _ _ _ a w); have e48 := hI.g 48 rfl; obtain rfl := hI.wp; go_simp; exact hI.s 9
  · intro a w (hI : SR _ _ _ _ a w); obtain rfl := hI.wp
    exact hQ a (hI.sub (by intro p hp; simp only [List.mem_cons, List.not_mem_nil, or_false] at hp ⊢; rcases hp with h | h | h | h | h | h | h | h <;> simp [h]))
theorem l13 (n : Nat) (W : World) (B sB mB : Nat) (ly c : Nat) (hc : c < 9000000000) (Q : Exit → Act → World → Prop) (a : Act) (h0 : SR [(1, .pointer (some ⟨B, 0, none⟩)), (5, .pointer (some ⟨sB, 0, none⟩)), (6, .pointer (some ⟨mB, 0, none⟩)), (7, .int .i64 ly), (26, .int .i64 ly), (27, .int .i64 c)] 110 [] W a W)
    (hQ : ∀ a, SR [(1, .pointer (some ⟨B, 0, none⟩)), (5, .pointer (some ⟨sB, 0, none⟩)), (6, .pointer (some ⟨mB, 0, none⟩)), (7, .int .i64 ly), (26, .int .i64 ly), (27, .int .i64 (c + 1 : Nat))] 110 [] W a W → Q .normal a W) : (regOf 13 C14).wpIn Fence.wide n Try.prog Q a W := by
  simp only [regOf, C14, Try.f14, Option.getD, Nat.reduceBEq, Bool.false_eq_true, if_true, if_false]
  refine region_sq (fun k_ a w => match k_ with | 0 => SR [(1, .pointer (some ⟨B, 0, none⟩)), (5, .pointer (some ⟨sB, 0, none⟩)), (6, .pointer (some ⟨mB, 0, none⟩)), (7, .int .i64 ly), (26, .int .i64 ly), (27, .int .i64 c)] 110 [] W a w | 1 => SR [(1, .pointer (some ⟨B, 0, none⟩)), (5, .pointer (some ⟨sB, 0, none⟩)), (6, .pointer (some ⟨mB, 0, none⟩)), (7, .int .i64 ly), (26, .int .i64 ly), (27, .int .i64 c), (59, .int .i64 ((c : Int) + 1))] 110 [] W a w | _ => SR [(1, .pointer (some ⟨B, 0, none⟩)), (5, .pointer (some ⟨sB, 0, none⟩)), (6, .pointer (some ⟨mB, 0, none⟩)), (7, .int .i64 ly), (26, .int .i64 ly), (59, .int .i64 ((c : Int) + 1)), (27, .int .i64 ((c : Int) + 1))] 110 [] W a w) h0 ⟨?_, ?_, trivial⟩ ?_
  · intro a w (hI : SR _ _ _ _ a w); have e27 := hI.g 27 rfl; obtain rfl := hI.wp; have hw : IntKind.i64.wrap ((c : Int) + 1) = (c : Int) + 1 := IntWalk.i64_in _ (by omega); go_simp; exact hI.s 59
  · intro a w (hI : SR _ _ _ _ a w); have e59 := hI.g 59 rfl; obtain rfl := hI.wp; go_simp; exact hI.s 27
  · intro a w (hI : SR _ _ _ _ a w); obtain rfl := hI.wp
    exact hQ a (hI.sub (by intro p hp; simp only [List.mem_cons, List.not_mem_nil, or_false] at hp ⊢; rcases hp with h | h | h | h | h | h <;> simp [h]))
theorem l14 (n : Nat) (W : World) (B sB mB : Nat) (N g off cap : Nat) (c3 : W.cell? ⟨B, 3, none⟩ = some (.slice (some ⟨g, off, none⟩) N cap)) (Q : Exit → Act → World → Prop) (a : Act) (h0 : SR [(1, .pointer (some ⟨B, 0, none⟩)), (5, .pointer (some ⟨sB, 0, none⟩)), (6, .pointer (some ⟨mB, 0, none⟩))] 110 [] W a W)
    (hQ : ∀ a, SR [(1, .pointer (some ⟨B, 0, none⟩)), (5, .pointer (some ⟨sB, 0, none⟩)), (6, .pointer (some ⟨mB, 0, none⟩)), (61, .slice (some ⟨g, off, none⟩) N cap), (62, .int .i64 N), (63, .int .i64 0)] 110 [] W a W → Q .normal a W) : (regOf 14 C14).wpIn Fence.wide n Try.prog Q a W := by
  simp only [regOf, C14, Try.f14, Option.getD, Nat.reduceBEq, Bool.false_eq_true, if_true, if_false]
  refine region_sq (fun k_ a w => match k_ with | 0 => SR [(1, .pointer (some ⟨B, 0, none⟩)), (5, .pointer (some ⟨sB, 0, none⟩)), (6, .pointer (some ⟨mB, 0, none⟩))] 110 [] W a w | 1 => SR [(1, .pointer (some ⟨B, 0, none⟩)), (5, .pointer (some ⟨sB, 0, none⟩)), (6, .pointer (some ⟨mB, 0, none⟩)), (60, .pointer (some ⟨B, 3, none⟩))] 110 [] W a w | 2 => SR [(1, .pointer (some ⟨B, 0, none⟩)), (5, .pointer (some ⟨sB, 0, none⟩)), (6, .pointer (some ⟨mB, 0, none⟩)), (60, .pointer (some ⟨B, 3, none⟩)), (61, .slice (some ⟨g, off, none⟩) N cap)] 110 [] W a w | 3 => SR [(1, .pointer (some ⟨B, 0, none⟩)), (5, .pointer (some ⟨sB, 0, none⟩)), (6, .pointer (some ⟨mB, 0, none⟩)), (60, .pointer (some ⟨B, 3, none⟩)), (61, .slice (some ⟨g, off, none⟩) N cap), (62, .int .i64 N)] 110 [] W a w | _ => SR [(1, .pointer (some ⟨B, 0, none⟩)), (5, .pointer (some ⟨sB, 0, none⟩)), (6, .pointer (some ⟨mB, 0, none⟩)), (60, .pointer (some ⟨B, 3, none⟩)), (61, .slice (some ⟨g, off, none⟩) N cap), (62, .int .i64 N), (63, .int .i64 0)] 110 [] W a w) h0 ⟨?_, ?_, ?_, ?_, trivial⟩ ?_
  · intro a w (hI : SR _ _ _ _ a w); have e1 := hI.g 1 rfl; obtain rfl := hI.wp; go_simp; exact hI.s 60
  · intro a w (hI : SR _ _ _ _ a w); have e60 := hI.g 60 rfl; obtain rfl := hI.wp; go_simp; exact hI.s 61
  · intro a w (hI : SR _ _ _ _ a w); have e61 := hI.g 61 rfl; obtain rfl := hI.wp; go_simp; exact hI.s 62
  · intro a w (hI : SR _ _ _ _ a w); obtain rfl := hI.wp; go_simp; exact hI.s 63
  · intro a w (hI : SR _ _ _ _ a w); obtain rfl := hI.wp
    exact hQ a (hI.sub (by intro p hp; simp only [List.mem_cons, List.not_mem_nil, or_false] at hp ⊢; rcases hp with h | h | h | h | h | h <;> simp [h]))
theorem l15 (n : Nat) (W : World) (B sB mB : Nat) (N g off cap i : Nat) (Q : Exit → Act → World → Prop) (a : Act) (h0 : SR [(1, .pointer (some ⟨B, 0, none⟩)), (5, .pointer (some ⟨sB, 0, none⟩)), (6, .pointer (some ⟨mB, 0, none⟩)), (61, .slice (some ⟨g, off, none⟩) N cap), (62, .int .i64 N), (63, .int .i64 i)] 110 [] W a W)
    (hQ : ∀ a, SR [(1, .pointer (some ⟨B, 0, none⟩)), (5, .pointer (some ⟨sB, 0, none⟩)), (6, .pointer (some ⟨mB, 0, none⟩)), (61, .slice (some ⟨g, off, none⟩) N cap), (62, .int .i64 N), (63, .int .i64 i), (64, .bool (decide (i < N)))] 110 [] W a W → Q .normal a W) : (regOf 15 C14).wpIn Fence.wide n Try.prog Q a W := by
  simp only [regOf, C14, Try.f14, Option.getD, Nat.reduceBEq, Bool.false_eq_true, if_true, if_false]
  refine region_sq (fun k_ a w => match k_ with | 0 => SR [(1, .pointer (some ⟨B, 0, none⟩)), (5, .pointer (some ⟨sB, 0, none⟩)), (6, .pointer (some ⟨mB, 0, none⟩)), (61, .slice (some ⟨g, off, none⟩) N cap), (62, .int .i64 N), (63, .int .i64 i)] 110 [] W a w | _ => SR [(1, .pointer (some ⟨B, 0, none⟩)), (5, .pointer (some ⟨sB, 0, none⟩)), (6, .pointer (some ⟨mB, 0, none⟩)), (61, .slice (some ⟨g, off, none⟩) N cap), (62, .int .i64 N), (63, .int .i64 i), (64, .bool (decide (i < N)))] 110 [] W a w) h0 ⟨?_, trivial⟩ ?_
  · intro a w (hI : SR _ _ _ _ a w); have e63 := hI.g 63 rfl; have e62 := hI.g 62 rfl; obtain rfl := hI.wp; go_simp; exact hI.s 64
  · intro a w (hI : SR _ _ _ _ a w); obtain rfl := hI.wp
    exact hQ a hI
theorem l19 (n : Nat) (W : World) (B sB mB : Nat) (N g off cap i : Nat) (hi : i < 9000000000) (Q : Exit → Act → World → Prop) (a : Act) (h0 : SR [(1, .pointer (some ⟨B, 0, none⟩)), (5, .pointer (some ⟨sB, 0, none⟩)), (6, .pointer (some ⟨mB, 0, none⟩)), (61, .slice (some ⟨g, off, none⟩) N cap), (62, .int .i64 N), (63, .int .i64 i)] 110 [] W a W)
    (hQ : ∀ a, SR [(1, .pointer (some ⟨B, 0, none⟩)), (5, .pointer (some ⟨sB, 0, none⟩)), (6, .pointer (some ⟨mB, 0, none⟩)), (61, .slice (some ⟨g, off, none⟩) N cap), (62, .int .i64 N), (63, .int .i64 (i + 1 : Nat))] 110 [] W a W → Q .normal a W) : (regOf 19 C14).wpIn Fence.wide n Try.prog Q a W := by
  simp only [regOf, C14, Try.f14, Option.getD, Nat.reduceBEq, Bool.false_eq_true, if_true, if_false]
  refine region_sq (fun k_ a w => match k_ with | 0 => SR [(1, .pointer (some ⟨B, 0, none⟩)), (5, .pointer (some ⟨sB, 0, none⟩)), (6, .pointer (some ⟨mB, 0, none⟩)), (61, .slice (some ⟨g, off, none⟩) N cap), (62, .int .i64 N), (63, .int .i64 i)] 110 [] W a w | 1 => SR [(1, .pointer (some ⟨B, 0, none⟩)), (5, .pointer (some ⟨sB, 0, none⟩)), (6, .pointer (some ⟨mB, 0, none⟩)), (61, .slice (some ⟨g, off, none⟩) N cap), (62, .int .i64 N), (63, .int .i64 i), (80, .int .i64 ((i : Int) + 1))] 110 [] W a w | _ => SR [(1, .pointer (some ⟨B, 0, none⟩)), (5, .pointer (some ⟨sB, 0, none⟩)), (6, .pointer (some ⟨mB, 0, none⟩)), (61, .slice (some ⟨g, off, none⟩) N cap), (62, .int .i64 N), (80, .int .i64 ((i : Int) + 1)), (63, .int .i64 ((i : Int) + 1))] 110 [] W a w) h0 ⟨?_, ?_, trivial⟩ ?_
  · intro a w (hI : SR _ _ _ _ a w); have e63 := hI.g 63 rfl; obtain rfl := hI.wp; have hw : IntKind.i64.wrap ((i : Int) + 1) = (i : Int) + 1 := IntWalk.i64_in _ (by omega); go_simp; exact hI.s 80
  · intro a w (hI : SR _ _ _ _ a w); have e80 := hI.g 80 rfl; obtain rfl := hI.wp; go_simp; exact hI.s 63
  · intro a w (hI : SR _ _ _ _ a w); obtain rfl := hI.wp
    exact hQ a (hI.sub (by intro p hp; simp only [List.mem_cons, List.not_mem_nil, or_false] at hp ⊢; rcases hp with h | h | h | h | h | h <;> simp [h]))
theorem l22 (n : Nat) (W : World) (r1 r2 r3 N : Nat) (Q : Exit → Act → World → Prop) (a : Act) (h0 : SR [(12, .slice (some ⟨r1, 0, none⟩) N N), (13, .slice (some ⟨r2, 0, none⟩) N N), (14, .slice (some ⟨r3, 0, none⟩) N N)] 110 [] W a W)
    (hQ : ∀ a, SR [(12, .slice (some ⟨r1, 0, none⟩) N N), (13, .slice (some ⟨r2, 0, none⟩) N N), (14, .slice (some ⟨r3, 0, none⟩) N N), (92, .int .i64 N), (93, .int .i64 0)] 110 [] W a W → Q .normal a W) : (regOf 22 C14).wpIn Fence.wide n Try.prog Q a W := by
  simp only [regOf, C14, Try.f14, Option.getD, Nat.reduceBEq, Bool.false_eq_true, if_true, if_false]
  refine region_sq (fun k_ a w => match k_ with | 0 => SR [(12, .slice (some ⟨r1, 0, none⟩) N N), (13, .slice (some ⟨r2, 0, none⟩) N N), (14, .slice (some ⟨r3, 0, none⟩) N N)] 110 [] W a w | 1 => SR [(12, .slice (some ⟨r1, 0, none⟩) N N), (13, .slice (some ⟨r2, 0, none⟩) N N), (14, .slice (some ⟨r3, 0, none⟩) N N), (91, .slice (some ⟨r3, 0, none⟩) N N)] 110 [] W a w | 2 => SR [(12, .slice (some ⟨r1, 0, none⟩) N N), (13, .slice (some ⟨r2, 0, none⟩) N N), (14, .slice (some ⟨r3, 0, none⟩) N N), (91, .slice (some ⟨r3, 0, none⟩) N N), (92, .int .i64 N)] 110 [] W a w | _ => SR [(12, .slice (some ⟨r1, 0, none⟩) N N), (13, .slice (some ⟨r2, 0, none⟩) N N), (14, .slice (some ⟨r3, 0, none⟩) N N), (91, .slice (some ⟨r3, 0, none⟩) N N), (92, .int .i64 N), (93, .int .i64 0)] 110 [] W a w) h0 ⟨?_, ?_, ?_, trivial⟩ ?_
  · intro a w (hI : SR _ _ _ _ a w); have e14 := hI.g 14 rfl; obtain rfl := hI.wp; go_simp; exact hI.s 91
  · intro a w (hI : SR _ _ _ _ a w); have e91 := hI.g 91 rfl; obtain rfl := hI.wp; go_simp; exact hI.s 92
  · intro a w (hI : SR _ _ _ _ a w); obtain rfl := hI.wp; go_simp; exact hI.s 93
  · intro a w (hI : SR _ _ _ _ a w); obtain rfl := hI.wp
    exact hQ a (hI.sub (by intro p hp; simp only [List.mem_cons, List.not_mem_nil, or_false] at hp ⊢; rcases hp with h | h | h | h | h <;> simp [h]))
theorem l23 (n : Nat) (W : World) (r1 r2 r3 N i : Nat) (Q : Exit → Act → World → Prop) (a : Act) (h0 : SR [(12, .slice (some ⟨r1, 0, none⟩) N N), (13, .slice (some ⟨r2, 0, none⟩) N N), (14, .slice (some ⟨r3, 0, none⟩) N N), (92, .int .i64 N), (93, .int .i64 i)] 110 [] W a W)
    (hQ : ∀ a, SR [(12, .slice (some ⟨r1, 0, none⟩) N N), (13, .slice (some ⟨r2, 0, none⟩) N N), (14, .slice (some ⟨r3, 0, none⟩) N N), (92, .int .i64 N), (93, .int .i64 i), (94, .bool (decide (i < N)))] 110 [] W a W → Q .normal a W) : (regOf 23 C14).wpIn Fence.wide n Try.prog Q a W := by
  simp only [regOf, C14, Try.f14, Option.getD, Nat.reduceBEq, Bool.false_eq_true, if_true, if_false]
  refine region_sq (fun k_ a w => match k_ with | 0 => SR [(12, .slice (some ⟨r1, 0, none⟩) N N), (13, .slice (some ⟨r2, 0, none⟩) N N), (14, .slice (some ⟨r3, 0, none⟩) N N), (92, .int .i64 N), (93, .int .i64 i)] 110 [] W a w | _ => SR [(12, .slice (some ⟨r1, 0, none⟩) N N), (13, .slice (some ⟨r2, 0, none⟩) N N), (14, .slice (some ⟨r3, 0, none⟩) N N), (92, .int .i64 N), (93, .int .i64 i), (94, .bool (decide (i < N)))] 110 [] W a w) h0 ⟨?_, trivial⟩ ?_
  · intro a w (hI : SR _ _ _ _ a w); have e93 := hI.g 93 rfl; have e92 := hI.g 92 rfl; obtain rfl := hI.wp; go_simp; exact hI.s 94
  · intro a w (hI : SR _ _ _ _ a w); obtain rfl := hI.wp
    exact hQ a hI
theorem l24 (n : Nat) (W : World) (r1 r2 r3 N i : Nat) (Q : Exit → Act → World → Prop) (a : Act) (h0 : SR [(12, .slice (some ⟨r1, 0, none⟩) N N), (13, .slice (some ⟨r2, 0, none⟩) N N), (14, .slice (some ⟨r3, 0, none⟩) N N), (92, .int .i64 N), (93, .int .i64 i)] 110 [] W a W)
    (hQ : ∀ a, SR [(12, .slice (some ⟨r1, 0, none⟩) N N), (13, .slice (some ⟨r2, 0, none⟩) N N), (14, .slice (some ⟨r3, 0, none⟩) N N), (92, .int .i64 N), (93, .int .i64 i), (15, .int .i64 i)] 110 [] W a W → Q .normal a W) : (regOf 24 C14).wpIn Fence.wide n Try.prog Q a W := by
  simp only [regOf, C14, Try.f14, Option.getD, Nat.reduceBEq, Bool.false_eq_true, if_true, if_false]
  refine region_sq (fun k_ a w => match k_ with | 0 => SR [(12, .slice (some ⟨r1, 0, none⟩) N N), (13, .slice (some ⟨r2, 0, none⟩) N N), (14, .slice (some ⟨r3, 0, none⟩) N N), (92, .int .i64 N), (93, .int .i64 i)] 110 [] W a w | 1 => SR [(12, .slice (some ⟨r1, 0, none⟩) N N), (13, .slice (some ⟨r2, 0, none⟩) N N), (14, .slice (some ⟨r3, 0, none⟩) N N), (92, .int .i64 N), (93, .int .i64 i), (95, .int .i64 i)] 110 [] W a w | _ => SR [(12, .slice (some ⟨r1, 0, none⟩) N N), (13, .slice (some ⟨r2, 0, none⟩) N N), (14, .slice (some ⟨r3, 0, none⟩) N N), (92, .int .i64 N), (93, .int .i64 i), (95, .int .i64 i), (15, .int .i64 i)] 110 [] W a w) h0 ⟨?_, ?_, trivial⟩ ?_
  · intro a w (hI : SR _ _ _ _ a w); have e93 := hI.g 93 rfl; obtain rfl := hI.wp; go_simp; exact hI.s 95
  · intro a w (hI : SR _ _ _ _ a w); have e95 := hI.g 95 rfl; obtain rfl := hI.wp; go_simp; exact hI.s 15
  · intro a w (hI : SR _ _ _ _ a w); obtain rfl := hI.wp
    exact hQ a (hI.sub (by intro p hp; simp only [List.mem_cons, List.not_mem_nil, or_false] at hp ⊢; rcases hp with h | h | h | h | h | h <;> simp [h]))
theorem l26 (n : Nat) (W : World) (r1 r2 r3 N i : Nat) (hi : i < 9000000000) (Q : Exit → Act → World → Prop) (a : Act) (h0 : SR [(12, .slice (some ⟨r1, 0, none⟩) N N), (13, .slice (some ⟨r2, 0, none⟩) N N), (14, .slice (some ⟨r3, 0, none⟩) N N), (92, .int .i64 N), (93, .int .i64 i)] 110 [] W a W)
    (hQ : ∀ a, SR [(12, .slice (some ⟨r1, 0, none⟩) N N), (13, .slice (some ⟨r2, 0, none⟩) N N), (14, .slice (some ⟨r3, 0, none⟩) N N), (92, .int .i64 N), (93, .int .i64 (i + 1 : Nat))] 110 [] W a W → Q .normal a W) : (regOf 26 C14).wpIn Fence.wide n Try.prog Q a W := by
  simp only [regOf, C14, Try.f14, Option.getD, Nat.reduceBEq, Bool.false_eq_true, if_true, if_false]
  refine region_sq (fun k_ a w => match k_ with | 0 => SR [(12, .slice (some ⟨r1, 0, none⟩) N N), (13, .slice (some ⟨r2, 0, none⟩) N N), (14, .slice (some ⟨r3, 0, none⟩) N N), (92, .int .i64 N), (93, .int .i64 i)] 110 [] W a w | 1 => SR [(12, .slice (some ⟨r1, 0, none⟩) N N), (13, .slice (some ⟨r2, 0, none⟩) N N), (14, .slice (some ⟨r3, 0, none⟩) N N), (92, .int .i64 N), (93, .int .i64 i), (108, .int .i64 ((i : Int) + 1))] 110 [] W a w | _ => SR [(12, .slice (some ⟨r1, 0, none⟩) N N), (13, .slice (some ⟨r2, 0, none⟩) N N), (14, .slice (some ⟨r3, 0, none⟩) N N), (92, .int .i64 N), (108, .int .i64 ((i : Int) + 1)), (93, .int .i64 ((i : Int) + 1))] 110 [] W a w) h0 ⟨?_, ?_, trivial⟩ ?_
  · intro a w (hI : SR _ _ _ _ a w); have e93 := hI.g 93 rfl; obtain rfl := hI.wp; have hw : IntKind.i64.wrap ((i : Int) + 1) = (i : Int) + 1 := IntWalk.i64_in _ (by omega); go_simp; exact hI.s 108
  · intro a w (hI : SR _ _ _ _ a w); have e108 := hI.g 108 rfl; obtain rfl := hI.wp; go_simp; exact hI.s 93
  · intro a w (hI : SR _ _ _ _ a w); obtain rfl := hI.wp
    exact hQ a (hI.sub (by intro p hp; simp only [List.mem_cons, List.not_mem_nil, or_false] at hp ⊢; rcases hp with h | h | h | h | h <;> simp [h]))
theorem l27 (n : Nat) (W : World) (r3 N : Nat) (Q : Exit → Act → World → Prop) (a : Act) (h0 : SR [(14, .slice (some ⟨r3, 0, none⟩) N N)] 110 [] W a W)
    (hQ : ∀ a, SR [(2, .slice (some ⟨r3, 0, none⟩) N N), (3, .int .i64 0)] 110 [] W a W → Q .normal a W) : (regOf 27 C14).wpIn Fence.wide n Try.prog Q a W := by
  simp only [regOf, C14, Try.f14, Option.getD, Nat.reduceBEq, Bool.false_eq_true, if_true, if_false]
  refine region_sq (fun k_ a w => match k_ with | 0 => SR [(14, .slice (some ⟨r3, 0, none⟩) N N)] 110 [] W a w | 1 => SR [(14, .slice (some ⟨r3, 0, none⟩) N N), (109, .slice (some ⟨r3, 0, none⟩) N N)] 110 [] W a w | 2 => SR [(14, .slice (some ⟨r3, 0, none⟩) N N), (109, .slice (some ⟨r3, 0, none⟩) N N), (2, .slice (some ⟨r3, 0, none⟩) N N)] 110 [] W a w | _ => SR [(14, .slice (some ⟨r3, 0, none⟩) N N), (109, .slice (some ⟨r3, 0, none⟩) N N), (2, .slice (some ⟨r3, 0, none⟩) N N), (3, .int .i64 0)] 110 [] W a w) h0 ⟨?_, ?_, ?_, trivial⟩ ?_
  · intro a w (hI : SR _ _ _ _ a w); have e14 := hI.g 14 rfl; obtain rfl := hI.wp; go_simp; exact hI.s 109
  · intro a w (hI : SR _ _ _ _ a w); have e109 := hI.g 109 rfl; obtain rfl := hI.wp; go_simp; exact hI.s 2
  · intro a w (hI : SR _ _ _ _ a w); obtain rfl := hI.wp; go_simp; exact hI.s 3
  · intro a w (hI : SR _ _ _ _ a w); obtain rfl := hI.wp
    exact hQ a (hI.sub (by intro p hp; simp only [List.mem_cons, List.not_mem_nil, or_false] at hp ⊢; rcases hp with h | h <;> simp [h]))
theorem l21 (n : Nat) (W : World) (B N g off cap r1 r2 : Nat) (hN : N ≤ 262144) (c3 : W.cell? ⟨B, 3, none⟩ = some (.slice (some ⟨g, off, none⟩) N cap)) (Q : Exit → Act → World → Prop) (a : Act) (h0 : SR [(1, .pointer (some ⟨B, 0, none⟩)), (12, .slice (some ⟨r1, 0, none⟩) N N), (13, .slice (some ⟨r2, 0, none⟩) N N)] 110 [] W a W)
    (hQ : ∀ a, SR [(12, .slice (some ⟨r1, 0, none⟩) N N), (13, .slice (some ⟨r2, 0, none⟩) N N), (14, .slice (some ⟨W.heap.size, 0, none⟩) N N)] 110 [] (W.alloc (.cells (madeCells #[.int .u8 0, .int .u8 0] (N * 2)) 37)) a (W.alloc (.cells (madeCells #[.int .u8 0, .int .u8 0] (N * 2)) 37)) → Q .normal a (W.alloc (.cells (madeCells #[.int .u8 0, .int .u8 0] (N * 2)) 37))) : (regOf 21 C14).wpIn Fence.wide n Try.prog Q a W := by
  obtain ⟨i0, hi, hz0, hz1, hz2⟩ := info_parts info37
  have hmk := run_make (P := Try.prog) W 28 37 i0 (.agg #[.int .u8 0, .int .u8 0]) under28 hi hz0 .i64 .i64 N N (by omega) (Int.le_refl _) (by rw [hz2]; omega) (by omega)
  rw [Int.toNat_natCast, hz1] at hmk
  replace hmk : (Instr.makeSlice 28 (.int .i64 N) (.int .i64 N)).run Try.prog W = .ok (.slice (some ⟨W.heap.size, 0, none⟩) N N) (W.alloc (.cells (madeCells #[.int .u8 0, .int .u8 0] (N * 2)) 37)) := hmk
  simp only [regOf, C14, Try.f14, Option.getD, Nat.reduceBEq, Bool.false_eq_true, if_true, if_false]
  refine region_sq (fun k_ a w => match k_ with | 0 => SR [(1, .pointer (some ⟨B, 0, none⟩)), (12, .slice (some ⟨r1, 0, none⟩) N N), (13, .slice (some ⟨r2, 0, none⟩) N N)] 110 [] W a w | 1 => SR [(1, .pointer (some ⟨B, 0, none⟩)), (12, .slice (some ⟨r1, 0, none⟩) N N), (13, .slice (some ⟨r2, 0, none⟩) N N), (87, .pointer (some ⟨B, 3, none⟩))] 110 [] W a w | 2 => SR [(1, .pointer (some ⟨B, 0, none⟩)), (12, .slice (some ⟨r1, 0, none⟩) N N), (13, .slice (some ⟨r2, 0, none⟩) N N), (88, .slice (some ⟨g, off, none⟩) N cap)] 110 [] W a w | 3 => SR [(1, .pointer (some ⟨B, 0, none⟩)), (12, .slice (some ⟨r1, 0, none⟩) N N), (13, .slice (some ⟨r2, 0, none⟩) N N), (89, .int .i64 N)] 110 [] W a w | 4 => SR [(1, .pointer (some ⟨B, 0, none⟩)), (12, .slice (some ⟨r1, 0, none⟩) N N), (13, .slice (some ⟨r2, 0, none⟩) N N), (90, .slice (some ⟨W.heap.size, 0, none⟩) N N)] 110 [] (W.alloc (.cells (madeCells #[.int .u8 0, .int .u8 0] (N * 2)) 37)) a w | _ => SR [(1, .pointer (some ⟨B, 0, none⟩)), (12, .slice (some ⟨r1, 0, none⟩) N N), (13, .slice (some ⟨r2, 0, none⟩) N N), (14, .slice (some ⟨W.heap.size, 0, none⟩) N N)] 110 [] (W.alloc (.cells (madeCells #[.int .u8 0, .int .u8 0] (N * 2)) 37)) a w) h0 ⟨?_, ?_, ?_, ?_, ?_, trivial⟩ ?_
  · intro a w (hI : SR _ _ _ _ a w); have e1 := hI.g 1 rfl; obtain rfl := hI.wp
    clear hmk
    go_simp; exact hI.s 87
  · intro a w (hI : SR _ _ _ _ a w); have e87 := hI.g 87 rfl; obtain rfl := hI.wp
    clear hmk
    go_simp; exact hI.s 88
  · intro a w (hI : SR _ _ _ _ a w); have e88 := hI.g 88 rfl; obtain rfl := hI.wp
    clear hmk
    go_simp; exact hI.s 89
  · intro a w (hI : SR _ _ _ _ a w); have e89 := hI.g 89 rfl; obtain rfl := hI.wp; go_simp; exact hI.s 90
  · intro a w (hI : SR _ _ _ _ a w); have e90 := hI.g 90 rfl
    obtain rfl : w = W.alloc (.cells (madeCells #[.int .u8 0, .int .u8 0] (N * 2)) 37) := hI.wp
    clear hmk
    go_simp; exact hI.s 14
  · intro a w (hI : SR _ _ _ _ a w)
    obtain rfl : w = W.alloc (.cells (madeCells #[.int .u8 0, .int .u8 0] (N * 2)) 37) := hI.wp
    exact hQ a (hI.sub (by intro p hp; simp only [List.mem_cons, List.not_mem_nil, or_false] at hp ⊢; rcases hp with h | h | h <;> simp [h]))
end Go.Proofs.Ytmgiabehooghcaa
namespace Go.Proofs.Ytmgiabehooghcaa
open Go.RowKit Go.Shelf
attribute [local go_sem] Oper.semAt_some

structure App (W : World) (V : Value) (n : Nat) (xs : List Value) (s : Value) (V' : Value) (w1 : World) : Prop where
  own : w1.ownsRow 0 3 1 V' (n + 1) (xs ++ [s])
  os : w1.os = W.os
  tape : w1.tape = W.tape
  output : w1.output = W.output
  size : W.heap.size ≤ w1.heap.size
  heap : ∀ k, k < W.heap.size → V.ownBlock ≠ some k → w1.heap[k]? = W.heap[k]?
  at_ : V'.ownBlock = V.ownBlock ∨ ∃ k, W.heap.size ≤ k ∧ V'.ownBlock = some k
theorem Lists.app {W w1 : World} {lB m : Nat} {vs : Nat → Value} {Ls : Nat → List Nat} {s : Nat} {V' : Value} (h : Lists W lB vs Ls) (hm : m < 16) (ha : App W (vs m) (Ls m).length (intsV (Ls m)) (.int .i64 s) V' w1) :
    Lists (w1.setCell ⟨lB, m, none⟩ V') lB (upd vs m V') (upd Ls m (Ls m ++ [s])) ∧
    (∀ k, k < W.heap.size → k ≠ lB → (vs m).ownBlock ≠ some k → (w1.setCell ⟨lB, m, none⟩ V').heap[k]? = W.heap[k]?) ∧ W.heap.size ≤ (w1.setCell ⟨lB, m, none⟩ V').heap.size := by
  have hne : (vs m).ownBlock ≠ some lB := fun e => h.own_ne hm e rfl
  have hk : ∀ k, k < W.heap.size → k ≠ lB → (vs m).ownBlock ≠ some k → (w1.setCell ⟨lB, m, none⟩ V').heap[k]? = W.heap[k]? := fun k h1 h2 h3 =>
    (Below.heap_setCell _ _ _ k h2).trans (ha.heap k h1 h3)
  have hV' : ∀ g, V'.ownBlock = some g → g ≠ lB := fun g hg e => by
    subst e
    rcases ha.at_ with h1 | ⟨k, h1, h2⟩
    · exact hne (h1.symm.trans hg)
    · rw [h2] at hg; have := h.lt; simp at hg; omega
  refine ⟨⟨?_, fun j hj => ?_, fun j j' hj hj' hjj g hg => ?_⟩, hk, by show _ ≤ (w1.heap.modify _ _).size; rw [Array.size_modify]; exact ha.size⟩
  · obtain ⟨cur, h1, h2, h3⟩ := h.blk
    refine ⟨cur.setIfInBounds m V', setCell_heap_same ((ha.heap _ h.lt hne).trans h1) V', by simp [h2], fun j hj => ?_⟩
    by_cases e : j = m
    · subst e; simp [h2, hj]
    · rw [upd_ne _ _ e]; simp [Ne.symm e, h3 j hj]
  · by_cases e : j = m
    · subst e
      rw [upd_same, upd_same]
      have := ownsRow_same (W' := w1.setCell ⟨lB, j, none⟩ V') ha.own (fun g hg => Below.heap_setCell _ _ _ g (hV' g hg))
      simpa [intsV] using this
    · rw [upd_ne _ _ e, upd_ne _ _ e]
      exact ownsRow_same (h.rows j hj) fun g hg => hk g (h.own_lt hj hg) (h.own_ne hj hg) (fun e' => h.apart j m hj hm e g hg e')
  · by_cases e : j = m
    · subst e
      rw [upd_same] at hg
      rw [upd_ne _ _ (Ne.symm hjj)]
      rcases ha.at_ with h1 | ⟨k, h1, h2⟩
      · exact h.apart j j' hj hj' hjj g (h1.symm.trans hg)
      · rw [h2] at hg
        intro e'
        have := h.own_lt hj' e'
        simp at hg; omega
    · rw [upd_ne _ _ e] at hg
      by_cases e' : j' = m
      · subst e'
        rw [upd_same]
        rcases ha.at_ with h1 | ⟨k, h1, h2⟩
        · rw [h1]; exact h.apart j j' hj hj' hjj g hg
        · rw [h2]; have := h.own_lt hj hg; simp; omega
      · rw [upd_ne _ _ e']; exact h.apart j j' hj hj' hjj g hg
inductive SomeVN (I : Value → Nat → (Nat → Bool) → Act → World → Prop) (X : Nat → Bool) (a : Act) (w : World) : Prop
  | mk (v : Value) (t : Nat) (h : I v t X a w) : SomeVN I X a w
structure WA (W : World) (V : Value) (n : Nat) (xs : List Value) (s : Value) (lB m : Nat) (V' : Value) (tb : Nat) (b7 b8 b10 : Bool) (w : World) : Prop where
  pre : b8 = false → Below W.heap.size W w
  tmp : b8 = false → b7 = true → w.cell? ⟨tb, 0, none⟩ = some s
  post : b8 = true → b10 = false → App W V n xs s V' w
  fin : b10 = true → ∃ w1, App W V n xs s V' w1 ∧ w = w1.setCell ⟨lB, m, none⟩ V'
theorem WA.below {W : World} {V : Value} {n : Nat} {xs : List Value} {s : Value} {lB m : Nat} {V' : Value} {tb : Nat} {b7 b10 : Bool} {w w' : World} (h : WA W V n xs s lB m V' tb b7 false b10 w) (h10 : b10 = false) (hb : Below w.heap.size w w') : WA W V n xs s lB m V' tb b7 false b10 w' :=
  ⟨fun _ => (h.pre rfl).trans (hb.mono (h.pre rfl).size), fun _ h7 => (hb.cell (p := ⟨tb, 0, none⟩) (by
      have := h.tmp rfl h7
      unfold World.cell? at this
      cases hh : w.heap[tb]? with
      | none => rw [hh] at this; simp at this
      | some o => exact (Array.getElem?_eq_some_iff.1 hh).1)).trans (h.tmp rfl h7), fun h8 => (by cases h8), fun h => (by rw [h10] at h; cases h)⟩
theorem WA.build {W : World} {V : Value} {n : Nat} {xs : List Value} {s : Value} {lB m : Nat} {V' : Value} {tb : Nat} {b7 b10 : Bool} {w : World} (h : WA W V n xs s lB m V' tb b7 false b10 w) (h10 : b10 = false) (V2 : Value) : WA W V n xs s lB m V2 w.heap.size true false b10 (w.alloc (.cells #[s] 3)) :=
  ⟨fun _ => (h.pre rfl).trans ((Below.refl _ _).alloc (h.pre rfl).size _), fun _ _ => (Boxed.new w 3 s).cell, fun h8 => (by cases h8), fun h => (by rw [h10] at h; cases h)⟩
theorem App.of_grown {W w w1 : World} {V V' : Value} {n : Nat} {xs : List Value} {s : Value} (hb : Below W.heap.size W w) (h1 : w1.ownsRow 0 3 1 V' (n + 1) (xs ++ [s])) (h2 : w.grownBy w1 V.ownBlock) (h3 : V'.ownBlock = V.ownBlock ∨ V'.ownBlock = some w.heap.size) : App W V n xs s V' w1 :=
  ⟨h1, h2.os.trans hb.os, h2.tape.trans hb.tape, h2.output.trans hb.output, Nat.le_trans hb.size h2.size, fun k hk hne => (h2.block k (Nat.lt_of_lt_of_le hk hb.size) (Ne.symm hne)).trans (hb.block k hk), h3.imp id fun h => ⟨_, hb.size, h⟩⟩
theorem l12 (n : Nat) (W : World) (B sB mB ly c y i : Nat) (hw1 : IntKind.i64.wrap ((y : Int) * ly) = (y : Int) * ly) (hw2 : IntKind.i64.wrap ((y : Int) * ly + c) = (i : Int)) (vs : Nat → Value) (Ls : Nat → List Nat) (hls : Lists W sB vs Ls) (hm : 15 < 16) (hlen : (Ls 15).length < 17592186044415)
    (Q : Exit → Act → World → Prop) (a : Act) (h0 : SR [(1, .pointer (some ⟨B, 0, none⟩)), (5, .pointer (some ⟨sB, 0, none⟩)), (6, .pointer (some ⟨mB, 0, none⟩)), (7, .int .i64 ly), (26, .int .i64 ly), (27, .int .i64 c), (8, .int .i64 c), (9, .int .i64 (y : Nat))] 110 [] W a W)
    (hQ : ∀ a w1 V', App W (vs 15) (Ls 15).length (intsV (Ls 15)) (.int .i64 i) V' w1 → SR [(1, .pointer (some ⟨B, 0, none⟩)), (5, .pointer (some ⟨sB, 0, none⟩)), (6, .pointer (some ⟨mB, 0, none⟩)), (7, .int .i64 ly), (26, .int .i64 ly), (27, .int .i64 c), (8, .int .i64 c), (9, .int .i64 (y : Nat))] 110 [] (w1.setCell ⟨sB, 15, none⟩ V') a (w1.setCell ⟨sB, 15, none⟩ V') → Q .normal a (w1.setCell ⟨sB, 15, none⟩ V')) :
    (regOf 12 C14).wpIn Fence.wide n Try.prog Q a W := by
  have hmix : Try.prog.follows .mixedOrders = true := by kernel_rfl
  obtain ⟨i0, hi, hz0, hz1, hz2⟩ := info_parts info3
  have hcell := hls.cell hm
  have hfrz := hls.frozen (15)
  have hll := hls.lt
  have hnb : (vs 15).ownBlock ≠ some sB := fun e => hls.own_ne hm e rfl
  simp only [regOf, C14, Try.f14, Option.getD, Nat.reduceBEq, Bool.false_eq_true, if_true, if_false]
  refine region_seq (SomeVN fun V' tb => RI [(1, .pointer (some ⟨B, 0, none⟩)), (5, .pointer (some ⟨sB, 0, none⟩)), (6, .pointer (some ⟨mB, 0, none⟩)), (7, .int .i64 ly), (26, .int .i64 ly), (27, .int .i64 c), (8, .int .i64 c), (9, .int .i64 (y : Nat))]
    [(0, 49, .pointer (some ⟨sB, 15, none⟩)), (1, 50, vs 15), (2, 51, .int .i64 (y : Nat)), (3, 52, .int .i64 ly), (4, 53, .int .i64 ((y : Int) * ly)), (5, 54, .int .i64 c), (6, 55, .int .i64 i), (7, 56, .slice (some ⟨tb, 0, none⟩) 1 1), (8, 57, V'), (9, 58, .pointer (some ⟨sB, 15, none⟩))] 110 [] (fun Xs w => WA W (vs 15) (Ls 15).length (intsV (Ls 15)) (.int .i64 i) sB 15 V' tb (Xs 7) (Xs 8) (Xs 10) w)) (by kernel_rfl) ⟨undef, 0, h0.size, h0.defers, h0.kn, by simp, ⟨fun _ => Below.refl _ _, fun _ h => (by cases h), fun h => (by cases h), fun h => (by cases h)⟩⟩ ⟨?_, ?_, ?_, ?_, ?_, ?_, ?_, ?_, ?_, ?_, ?_, trivial⟩ ?_
  · intro Xs a w hX hdep hC hJ
    obtain ⟨V', tb, hI⟩ := hJ
    have e5 := hI.gi 5 rfl
    have x8 : Xs 8 = false := by
      cases h : Xs 8 with
      | false => rfl
      | true =>
        have y8 := h
        have y1 := hC 8 _ rfl y8 ⟨1, .data⟩ (by simp) rfl
        have y0 := hC 1 _ rfl y1 ⟨0, .data⟩ (by simp) rfl
        rw [hX] at y0; cases y0
    have x10 : Xs 10 = false := by
      cases h : Xs 10 with
      | false => rfl
      | true => have := hC 10 _ rfl h ⟨8, .data⟩ (by simp) rfl; rw [x8] at this; cases this
    have hb := hI.wp.pre x8
    go_simp
    exact ⟨V', tb, hI.put' (k := 0) (d := 49) (v := .pointer (some ⟨sB, 15, none⟩)) (by decide) (by simp) (by simp) (by simp) (by simpa [addX] using hI.wp)⟩
  · intro Xs a w hX hdep hC hJ
    obtain ⟨V', tb, hI⟩ := hJ
    have e49 := hI.gk 0 rfl (hdep ⟨0, .data⟩ (by simp) rfl)
    have x8 : Xs 8 = false := by
      cases h : Xs 8 with
      | false => rfl
      | true =>
        have y8 := h
        have y1 := hC 8 _ rfl y8 ⟨1, .data⟩ (by simp) rfl
        rw [hX] at y1; cases y1
    have x10 : Xs 10 = false := by
      cases h : Xs 10 with
      | false => rfl
      | true => have := hC 10 _ rfl h ⟨8, .data⟩ (by simp) rfl; rw [x8] at this; cases this
    have hb := hI.wp.pre x8
    have cc := (hb.cell (p := ⟨sB, 15, none⟩) hll).trans hcell
    go_simp
    exact ⟨V', tb, hI.put' (k := 1) (d := 50) (v := vs 15) (by decide) (by simp) (by simp) (by simp) (by simpa [addX] using hI.wp)⟩
  · intro Xs a w hX hdep hC hJ
    obtain ⟨V', tb, hI⟩ := hJ
    have e9 := hI.gi 9 rfl
    have x8 : Xs 8 = false := by
      cases h : Xs 8 with
      | false => rfl
      | true =>
        have y8 := h
        have y7 := hC 8 _ rfl y8 ⟨7, .data⟩ (by simp) rfl
        have y6 := hC 7 _ rfl y7 ⟨6, .data⟩ (by simp) rfl
        have y4 := hC 6 _ rfl y6 ⟨4, .data⟩ (by simp) rfl
        have y2 := hC 4 _ rfl y4 ⟨2, .data⟩ (by simp) rfl
        rw [hX] at y2; cases y2
    have x10 : Xs 10 = false := by
      cases h : Xs 10 with
      | false => rfl
      | true => have := hC 10 _ rfl h ⟨8, .data⟩ (by simp) rfl; rw [x8] at this; cases this
    have hb := hI.wp.pre x8
    go_simp
    exact ⟨V', tb, hI.put' (k := 2) (d := 51) (v := .int .i64 (y : Nat)) (by decide) (by simp) (by simp) (by simp) (by simpa [addX] using hI.wp)⟩
  · intro Xs a w hX hdep hC hJ
    obtain ⟨V', tb, hI⟩ := hJ
    have e7 := hI.gi 7 rfl
    have x8 : Xs 8 = false := by
      cases h : Xs 8 with
      | false => rfl
      | true =>
        have y8 := h
        have y7 := hC 8 _ rfl y8 ⟨7, .data⟩ (by simp) rfl
        have y6 := hC 7 _ rfl y7 ⟨6, .data⟩ (by simp) rfl
        have y4 := hC 6 _ rfl y6 ⟨4, .data⟩ (by simp) rfl
        have y3 := hC 4 _ rfl y4 ⟨3, .data⟩ (by simp) rfl
        rw [hX] at y3; cases y3
    have x10 : Xs 10 = false := by
      cases h : Xs 10 with
      | false => rfl
      | true => have := hC 10 _ rfl h ⟨8, .data⟩ (by simp) rfl; rw [x8] at this; cases this
    have hb := hI.wp.pre x8
    go_simp
    exact ⟨V', tb, hI.put' (k := 3) (d := 52) (v := .int .i64 ly) (by decide) (by simp) (by simp) (by simp) (by simpa [addX] using hI.wp)⟩
  · intro Xs a w hX hdep hC hJ
    obtain ⟨V', tb, hI⟩ := hJ
    have e51 := hI.gk 2 rfl (hdep ⟨2, .data⟩ (by simp) rfl); have e52 := hI.gk 3 rfl (hdep ⟨3, .data⟩ (by simp) rfl)
    have x8 : Xs 8 = false := by
      cases h : Xs 8 with
      | false => rfl
      | true =>
        have y8 := h
        have y7 := hC 8 _ rfl y8 ⟨7, .data⟩ (by simp) rfl
        have y6 := hC 7 _ rfl y7 ⟨6, .data⟩ (by simp) rfl
        have y4 := hC 6 _ rfl y6 ⟨4, .data⟩ (by simp) rfl
        rw [hX] at y4; cases y4
    have x10 : Xs 10 = false := by
      cases h : Xs 10 with
      | false => rfl
      | true => have := hC 10 _ rfl h ⟨8, .data⟩ (by simp) rfl; rw [x8] at this; cases this
    have hb := hI.wp.pre x8
    go_simp
    exact ⟨V', tb, hI.put' (k := 4) (d := 53) (v := .int .i64 ((y : Int) * ly)) (by decide) (by simp) (by simp) (by simp) (by simpa [addX] using hI.wp)⟩
  · intro Xs a w hX hdep hC hJ
    obtain ⟨V', tb, hI⟩ := hJ
    have e8 := hI.gi 8 rfl
    have x8 : Xs 8 = false := by
      cases h : Xs 8 with
      | false => rfl
      | true =>
        have y8 := h
        have y7 := hC 8 _ rfl y8 ⟨7, .data⟩ (by simp) rfl
        have y6 := hC 7 _ rfl y7 ⟨6, .data⟩ (by simp) rfl
        have y5 := hC 6 _ rfl y6 ⟨5, .data⟩ (by simp) rfl
        rw [hX] at y5; cases y5
    have x10 : Xs 10 = false := by
      cases h : Xs 10 with
      | false => rfl
      | true => have := hC 10 _ rfl h ⟨8, .data⟩ (by simp) rfl; rw [x8] at this; cases this
    have hb := hI.wp.pre x8
    go_simp
    exact ⟨V', tb, hI.put' (k := 5) (d := 54) (v := .int .i64 c) (by decide) (by simp) (by simp) (by simp) (by simpa [addX] using hI.wp)⟩
  · intro Xs a w hX hdep hC hJ
    obtain ⟨V', tb, hI⟩ := hJ
    have e53 := hI.gk 4 rfl (hdep ⟨4, .data⟩ (by simp) rfl); have e54 := hI.gk 5 rfl (hdep ⟨5, .data⟩ (by simp) rfl)
    have x8 : Xs 8 = false := by
      cases h : Xs 8 with
      | false => rfl
      | true =>
        have y8 := h
        have y7 := hC 8 _ rfl y8 ⟨7, .data⟩ (by simp) rfl
        have y6 := hC 7 _ rfl y7 ⟨6, .data⟩ (by simp) rfl
        rw [hX] at y6; cases y6
    have x10 : Xs 10 = false := by
      cases h : Xs 10 with
      | false => rfl
      | true => have := hC 10 _ rfl h ⟨8, .data⟩ (by simp) rfl; rw [x8] at this; cases this
    have hb := hI.wp.pre x8
    go_simp
    exact ⟨V', tb, hI.put' (k := 6) (d := 55) (v := .int .i64 i) (by decide) (by simp) (by simp) (by simp) (by simpa [addX] using hI.wp)⟩
  · intro Xs a w hX hdep hC hJ
    obtain ⟨V', tb, hI⟩ := hJ
    have e55 := hI.gk 6 rfl (hdep ⟨6, .data⟩ (by simp) rfl)
    have x8 : Xs 8 = false := by
      cases h : Xs 8 with
      | false => rfl
      | true =>
        have y8 := h
        have y7 := hC 8 _ rfl y8 ⟨7, .data⟩ (by simp) rfl
        rw [hX] at y7; cases y7
    have x10 : Xs 10 = false := by
      cases h : Xs 10 with
      | false => rfl
      | true => have := hC 10 _ rfl h ⟨8, .data⟩ (by simp) rfl; rw [x8] at this; cases this
    have hb := hI.wp.pre x8
    go_simp
    have hW := (x8 ▸ hI.wp).build x10 V'
    refine ⟨V', w.heap.size, RI.putX hI (k := 7) (d := 56) (by decide) (by simp) (by simp) (by simp) (by simp) ?_⟩
    have e7 : addX Xs 7 7 = true := by simp
    have e8 : addX Xs 7 8 = false := by simp [addX, x8]
    have e10 : addX Xs 7 10 = Xs 10 := by simp [addX]
    show WA _ _ _ _ _ _ _ _ _ (addX Xs 7 7) (addX Xs 7 8) (addX Xs 7 10) _
    rw [e7, e8, e10]
    exact hW
  · intro Xs a w hX hdep hC hJ
    obtain ⟨V', tb, hI⟩ := hJ
    have x7 : Xs 7 = true := hdep ⟨7, .data⟩ (by simp) rfl
    have e50 := hI.gk 1 rfl (hdep ⟨1, .data⟩ (by simp) rfl); have e56 := hI.gk 7 rfl x7
    rw [if_pos (by simp [Region.wanted])]
    have hb := hI.wp.pre hX
    have htm := hI.wp.tmp hX x7
    refine operIn_append (.tmp 50) (.tmp 56) 40 rfl 0 3 i0 (.int .i64 0) 1 8 under40 hi hz0 hz1 hz2 rfl (by decide) (vs 15) (Ls 15).length (intsV (Ls 15)) (by simpa [go_sem] using e50) (ownsRow_same (hls.rows _ hm) fun g hg => hb.block g (hls.own_lt hm hg)) ⟨tb, 0, none⟩ 1 1 [.int .i64 i] (by simpa [go_sem] using e56) rfl (fun j u hj => by
        match j, hj with
        | 0, hj => simp at hj; subst hj; exact htm
        | j + 1, hj => simp at hj) (by simp [Value.oneCell']) (by unfold maxLen; omega) (by omega) (Nat.zero_le _) ?_
    intro V2 w1 h1 h2 h3
    have hA := App.of_grown hb h1 h2 h3
    have x10 : Xs 10 = false := by
      cases h : Xs 10 with
      | false => rfl
      | true => have := hC 10 _ rfl h ⟨8, .data⟩ (by simp) rfl; rw [hX] at this; cases this
    refine ⟨V2, tb, RI.putX hI (k := 8) (d := 57) (by decide) (by simp) (by simp) (by simp) (by simp) ?_⟩
    have e8 : addX Xs 8 8 = true := by simp
    have e10 : addX Xs 8 10 = false := by simp [addX, x10]
    show WA _ _ _ _ _ _ _ _ _ (addX Xs 8 7) (addX Xs 8 8) (addX Xs 8 10) _
    rw [e8, e10]
    exact ⟨fun h => (by cases h), fun h => (by cases h), fun _ _ => hA, fun h => (by cases h)⟩
  · intro Xs a w hX hdep hC hJ
    obtain ⟨V', tb, hI⟩ := hJ
    have e5 := hI.gi 5 rfl; go_simp
    exact ⟨V', tb, hI.put' (k := 9) (d := 58) (v := .pointer (some ⟨sB, 15, none⟩)) (by decide) (by simp) (by simp) (by simp) (by simpa [addX] using hI.wp)⟩
  · intro Xs a w hX hdep hC hJ
    obtain ⟨V', tb, hI⟩ := hJ
    have x8 : Xs 8 = true := hdep ⟨8, .data⟩ (by simp) rfl
    have e58 := hI.gk 9 rfl (hdep ⟨9, .data⟩ (by simp) rfl); have e57 := hI.gk 8 rfl x8
    have k4 := hI.wp.post x8 hX
    obtain ⟨gg, cc, rfl⟩ := ownsRow_succ k4.own
    have k1 := (cell_of_heap (k4.heap _ hll hnb) (15)).trans hcell
    have k2 := (frozen_of_heap (k4.heap _ hll hnb) (15)).trans hfrz
    go_simp
    refine ⟨_, tb, hI.put_none' (k := 10) (by simp) ?_⟩
    have e10 : addX Xs 10 10 = true := by simp
    have e8 : addX Xs 10 8 = true := by simp [addX, x8]
    show WA _ _ _ _ _ _ _ _ _ (addX Xs 10 7) (addX Xs 10 8) (addX Xs 10 10) _
    rw [e8, e10]
    exact ⟨fun h => (by cases h), fun h => (by cases h), fun _ h => (by cases h), fun _ => ⟨w, k4, rfl⟩⟩
  · intro Xs a w hX hJ
    obtain ⟨V', tb, hI⟩ := hJ
    obtain ⟨w1, h1, rfl⟩ := hI.wp.fin (hX 10 (by simp))
    exact hQ a w1 V' h1 ⟨hI.size, hI.defers, fun p hp => hI.inp p (by simp only [List.mem_cons, List.not_mem_nil, or_false] at hp ⊢; rcases hp with h | h | h | h | h | h | h | h <;> simp [h]), rfl⟩
end Go.Proofs.Ytmgiabehooghcaa
