/- Glow, by hand: part H1. -/
import Derived.RangeFuncNested
import Derived.RangeFuncBound
import Derived.RangeFuncCalls
import Derived.RangeFuncLeaves
import Derived.Shelf.Abstract
import Derived.Shelf.RegionOpen
import Derived.WalkKit
import Derived.OwnWalkIn
import Derived.TacticsInMore
import Derived.LoopNIn
import Derived.LoopIn
import Derived.Maps.AppendAt
import Derived.Test.YtmgiabehooghcaaProg
import Derived.Lib.Hide
import Derived.IntWalk
set_option linter.unusedVariables false
set_option linter.unusedSimpArgs false
set_option maxRecDepth 100000
set_option maxHeartbeats 4000000
namespace Go.Proofs.Ytmgiabehooghcaa
open Go.RowKit Go.Shelf
attribute [local go_sem] Oper.semAt_some

theorem setCell_id {W : World} {B : Nat} {t : TypeId} {v : Value} (h : Boxed W B t v) : W.setCell ⟨B, 0, none⟩ v = W := by
  have h' : W.heap[B]? = some (.cells #[v] t (0, 0)) := h
  have e : (W.setCell ⟨B, 0, none⟩ v).heap = W.heap := by
    apply Array.ext
    · simp [World.setCell]
    · intro i h1 h2
      simp only [World.setCell, Array.getElem_modify]
      split
      · subst_vars
        have := (Array.getElem?_eq_some_iff.1 h').2
        simp [this]
      · rfl
  cases W
  unfold World.setCell at e ⊢
  simp only [World.mk.injEq]
  exact ⟨e, trivial, trivial, trivial, trivial⟩

theorem tell_yes (F : Fence) (n : Nat) (h41 : F.fn 41) (hro : F.round = none) (hn : 1 ≤ n) (l okB yB aB : Nat) (W : World) (a b s : Int) (R : World → Prop)
    (hok : Boxed W okB 4 (.bool true)) (hy : Boxed W yB 52 (.func (.yield l) #[] #[])) (ha : Boxed W aB 3 (.int .i64 a)) (hs : IntKind.i64.wrap (a + b) = s)
    (hY : YieldAt F (n - 1) Try.prog l #[.int .i64 s] W fun e W' => e = .returned (.bool true) ∧ Boxed W' okB 4 (.bool true) ∧ R W') :
    CallsIn F n Try.prog 41 #[.bool true, .int .i64 b, .pointer (some ⟨okB, 0, none⟩), .pointer (some ⟨yB, 0, none⟩), .pointer (some ⟨aB, 0, none⟩)] W fun e W' => (∃ v, e = .returned v) ∧ R W' := by
  have h1 := hok.cell
  have h2 := hy.cell
  have h3 := ha.cell
  obtain ⟨fn, tmps, assign, body, hy1, hR⟩ := hY
  refine callsIn_of_wp Try.func41 rfl h41 ?_ hro
  simp only [Try.ntmps41, List.size_toArray, List.length_cons, List.length_nil, Nat.reduceAdd, Nat.reduceSub, Array.replicate_succ, Array.replicate_zero, List.push_toArray, List.append_toArray, List.nil_append, List.cons_append]
  gi_wp2
  refine hR.mono ?_
  rintro e W' ⟨rfl, hok', hR'⟩
  have h4 := hok'.cell
  have h5 := hok'.frozen
  have h6 := setCell_id hok'
  gi_wp2
  go_end0
  exact ⟨⟨_, rfl⟩, hR'⟩

theorem tell_no (F : Fence) (n : Nat) (h41 : F.fn 41) (hro : F.round = none) (okB yB aB : Nat) (W : World) (b : Int) (R : World → Prop)
    (hok : Boxed W okB 4 (.bool true)) (hR : R W) :
    CallsIn F n Try.prog 41 #[.bool false, .int .i64 b, .pointer (some ⟨okB, 0, none⟩), .pointer (some ⟨yB, 0, none⟩), .pointer (some ⟨aB, 0, none⟩)] W fun e W' => (∃ v, e = .returned v) ∧ R W' := by
  have h1 := hok.cell
  have h5 := hok.frozen
  have h6 := setCell_id hok
  refine callsIn_of_wp Try.func41 rfl h41 ?_ hro
  simp only [Try.ntmps41, List.size_toArray, List.length_cons, List.length_nil, Nat.reduceAdd, Nat.reduceSub, Array.replicate_succ, Array.replicate_zero, List.push_toArray, List.append_toArray, List.nil_append, List.cons_append]
  gi_wp2
  refine ⟨fun _ h => (by cases h), ?_⟩
  gi_wp2
  go_end0
  exact ⟨⟨_, rfl⟩, hR⟩

def foot (bl : Nat) (W : World) (k : Nat) : Prop := k = bl ∨ ∃ m v, W.cell? ⟨bl, m, none⟩ = some v ∧ v.ownBlock = some k
structure KpL (bl : Nat) (W W' : World) : Prop where
  size : W.heap.size ≤ W'.heap.size
  same : ∀ k cs t fr, W.heap[k]? = some (.cells cs t fr) → ¬ foot bl W k → W'.heap[k]? = some (.cells cs t fr)
  foot : ∀ k, k < W.heap.size → foot bl W' k → foot bl W k
theorem KpL.refl (bl : Nat) (W : World) : KpL bl W W := ⟨Nat.le_refl _, fun _ _ _ _ h _ => h, fun _ _ h => h⟩
theorem KpL.trans {bl : Nat} {A B C : World} (h : KpL bl A B) (k : KpL bl B C) : KpL bl A C :=
  ⟨Nat.le_trans h.size k.size, fun j cs t fr hj hf => k.same j cs t fr (h.same j cs t fr hj hf) (fun hf' => hf (h.foot j (Array.getElem?_eq_some_iff.1 hj).1 hf')), fun j hj hf => h.foot j hj (k.foot j (Nat.lt_of_lt_of_le hj h.size) hf)⟩
theorem cell_of_heap {W W' : World} {b : Nat} (h : W'.heap[b]? = W.heap[b]?) (m : Nat) : W'.cell? ⟨b, m, none⟩ = W.cell? ⟨b, m, none⟩ := by
  unfold World.cell?; rw [h]
theorem foot_congr {bl : Nat} {W W' : World} (h : W'.heap[bl]? = W.heap[bl]?) (k : Nat) : foot bl W' k ↔ foot bl W k := by
  unfold foot; simp only [cell_of_heap h]
theorem KpL.book {bl : Nat} {w : World} (W : World) (l : Nat) (o o' : Obj) (_ : w.heap.size ≤ l) (h : W.heap[l]? = some o) (hc : o.isCells = false) (_ : o.isWalk = false) (hbl : bl ≠ l) : KpL bl W (W.putObj l o') :=
  ⟨by simp, fun k cs t fr hk _ => by
    by_cases e : k = l
    · subst e; rw [h] at hk; cases hk; cases hc
    · exact (World.putObj_heap_other e).trans hk, fun k _ hf => (foot_congr (World.putObj_heap_other hbl) k).1 hf⟩
def Kept (bl : Nat) (W : World) (k : Nat) (cs : Array Value) (t : TypeId) : Prop := W.heap[k]? = some (.cells cs t (0, 0)) ∧ ¬ foot bl W k
theorem Kept.kept {bl : Nat} {W W' : World} {k : Nat} {cs : Array Value} {t : TypeId} (h : Kept bl W k cs t) (hk : KpL bl W W') : Kept bl W' k cs t :=
  ⟨hk.same _ _ _ _ h.1 h.2, fun hf => h.2 (hk.foot _ (Array.getElem?_eq_some_iff.1 h.1).1 hf)⟩
theorem Kept.box {bl : Nat} {W : World} {k : Nat} {v : Value} {t : TypeId} (h : Kept bl W k #[v] t) : Boxed W k t v := h.1
theorem Kept.ne {bl : Nat} {W : World} {k : Nat} {cs : Array Value} {t : TypeId} (h : Kept bl W k cs t) : k ≠ bl := fun e => h.2 (.inl e)
theorem Kept.alloc {bl : Nat} {W : World} {k : Nat} {cs : Array Value} {t : TypeId} (h : Kept bl W k cs t) (hbl : bl < W.heap.size) (o : Obj) : Kept bl (W.alloc o) k cs t :=
  ⟨(Below.heap_alloc W o k (Array.getElem?_eq_some_iff.1 h.1).1).trans h.1, fun hf => h.2 ((foot_congr (Below.heap_alloc W o bl hbl) k).1 hf)⟩
theorem Kept.new {bl : Nat} {W : World} (hf : ∀ k, foot bl W k → k < W.heap.size) (cs : Array Value) (t : TypeId) : Kept bl (W.alloc (.cells cs t)) W.heap.size cs t :=
  ⟨World.alloc_heap_new W _, fun h => Nat.lt_irrefl _ (hf _ ((foot_congr (Below.heap_alloc W _ bl (hf bl (.inl rfl))) _).1 h))⟩
theorem foot_alloc {bl : Nat} {W : World} (hf : ∀ k, foot bl W k → k < W.heap.size) (o : Obj) : ∀ k, foot bl (W.alloc o) k → k < (W.alloc o).heap.size := fun k h => by
  have := hf k ((foot_congr (Below.heap_alloc W o bl (hf bl (.inl rfl))) k).1 h); simp; omega
theorem alloc_set (W : World) (t : TypeId) (v v' : Value) : (W.alloc (.cells #[v] t)).setCell ⟨W.heap.size, 0, none⟩ v' = W.alloc (.cells #[v'] t) := by
  have e : ((W.alloc (.cells #[v] t)).setCell ⟨W.heap.size, 0, none⟩ v').heap = (W.alloc (.cells #[v'] t)).heap := by
    simp only [World.setCell, World.alloc]
    apply Array.ext
    · simp only [Array.size_modify, Array.size_push]
    · intro i h1 h2
      simp only [Array.getElem_modify, Array.getElem_push]
      simp only [Array.size_push] at h2
      split
      · subst_vars; simp
      · rw [dif_pos (by omega), dif_pos (by omega)]
  have e2 : ∀ A B : World, A.heap = B.heap → A.tape = B.tape → A.drawn = B.drawn → A.os = B.os → A.output = B.output → A = B := by
    intro A B; cases A; cases B; simp only; rintro rfl rfl rfl rfl rfl; rfl
  exact e2 _ _ e rfl rfl rfl rfl

def sidesAt (X Y Z i x z y : Nat) : List Nat :=
  (if x + 1 < X then [i + 1] else []) ++ ((if 0 < x then [i - 1] else []) ++ ((if z + 1 < Z then [i + X] else []) ++ ((if 0 < z then [i - X] else []) ++
    ((if y + 1 < Y then [i + X * Z] else []) ++ (if 0 < y then [i - X * Z] else [])))))
structure Here (bl okB yB aB xB bB zB yyB l : Nat) (X Y Z i x z y : Nat) (cv : Value) (W : World) : Prop where
  ok : Kept bl W okB #[.bool true] 4
  yl : Kept bl W yB #[.func (.yield l) #[] #[]] 52
  aa : Kept bl W aB #[.int .i64 i] 3
  xx : Kept bl W xB #[.int .i64 x] 3
  zz : Kept bl W zB #[.int .i64 z] 3
  yy : Kept bl W yyB #[.int .i64 y] 3
  bx : Kept bl W bB #[.int .i64 X, .int .i64 Y, .int .i64 Z, cv] 24
theorem Here.kept {bl okB yB aB xB bB zB yyB l : Nat} {X Y Z i x z y : Nat} {cv : Value} {W W' : World} (h : Here bl okB yB aB xB bB zB yyB l X Y Z i x z y cv W) (hk : KpL bl W W') : Here bl okB yB aB xB bB zB yyB l X Y Z i x z y cv W' :=
  ⟨h.ok.kept hk, h.yl.kept hk, h.aa.kept hk, h.xx.kept hk, h.zz.kept hk, h.yy.kept hk, h.bx.kept hk⟩
theorem RoundIn.anyDepth' {F : Fence} (hd : F.depth = none) {m m' : Nat} {P : Program} {l : Nat} {f : FuncId} {tmps : Array Value} {assign body : Code} {w : World} {R : Ending → World → Prop}
    (h : RoundIn F m P l f tmps assign body w R) : RoundIn F m' P l f tmps assign body w R := ⟨h.1, fun c cs _ => h.2 c cs (fun d h => by rw [hd] at h; cases h)⟩
theorem YieldAt.anyDepth' {F : Fence} (hd : F.depth = none) {m : Nat} (m' : Nat) {P : Program} {l : Nat} {args : Array Value} {W : World} {R : Ending → World → Prop} (h : YieldAt F m P l args W R) : YieldAt F m' P l args W R := by
  obtain ⟨fn, tmps, assign, body, hy, hR⟩ := h
  exact ⟨fn, tmps, assign, body, hy, RoundIn.anyDepth' hd hR⟩

theorem tell_in {bl okB yB aB xB bB zB yyB l : Nat} {X Y Z i x z y : Nat} {cv : Value} (F : Fence) (n : Nat) (h41 : F.fn 41) (hro : F.round = none) (hn : 1 ≤ n) (N : Nat) (J : List (Fin N) → World → Prop)
    (hY : ∀ pre (s : Fin N) W, J pre W → pre.length < 6 → YieldAt F (n - 1) Try.prog l #[.int .i64 s.val] W fun e W' => e = .returned (.bool true) ∧ J (pre ++ [s]) W' ∧ KpL bl W W')
    (acc : List Nat) (W : World) (ha : ∃ ys : List (Fin N), ys.map (fun s => s.val) = acc ∧ J ys W) (hH : Here bl okB yB aB xB bB zB yyB l X Y Z i x z y cv W) (hl : acc.length < 6)
    (c : Bool) (b : Int) (s : Nat) (hs : c = true → s < N ∧ IntKind.i64.wrap (i + b) = (s : Int)) :
    CallsIn F n Try.prog 41 #[.bool c, .int .i64 b, .pointer (some ⟨okB, 0, none⟩), .pointer (some ⟨yB, 0, none⟩), .pointer (some ⟨aB, 0, none⟩)] W fun e W' => (∃ v, e = .returned v) ∧
      (∃ ys : List (Fin N), ys.map (fun s => s.val) = acc ++ (if c = true then [s] else []) ∧ J ys W') ∧ Here bl okB yB aB xB bB zB yyB l X Y Z i x z y cv W' := by
  obtain ⟨ys, hys, hJ⟩ := ha
  cases c with
  | true =>
    obtain ⟨h1, h2⟩ := hs rfl
    refine tell_yes F n h41 hro hn l okB yB aB W i b s _ hH.ok.box hH.yl.box hH.aa.box h2 ?_
    refine (hY ys ⟨s, h1⟩ W hJ (by rw [← hys] at hl; simpa using hl)).mono ?_
    rintro e W' ⟨rfl, hJ', hk⟩
    exact ⟨rfl, (hH.kept hk).ok.box, ⟨ys ++ [⟨s, h1⟩], by simp [hys], hJ'⟩, hH.kept hk⟩
  | false =>
    exact tell_no F n h41 hro okB yB aB W b _ hH.ok.box ⟨⟨ys, by simp [hys], hJ⟩, hH⟩

end Go.Proofs.Ytmgiabehooghcaa
namespace Go.Proofs.Ytmgiabehooghcaa
open Go.RowKit Go.Shelf
attribute [local go_sem] Oper.semAt_some

theorem Here.cells {bl okB yB aB xB bB zB yyB l : Nat} {X Y Z i x z y : Nat} {cv : Value} {W : World} (h : Here bl okB yB aB xB bB zB yyB l X Y Z i x z y cv W) :
    W.cell? ⟨xB, 0, none⟩ = some (.int .i64 x) ∧ W.cell? ⟨zB, 0, none⟩ = some (.int .i64 z) ∧ W.cell? ⟨yyB, 0, none⟩ = some (.int .i64 y) ∧ W.cell? ⟨bB, 0, none⟩ = some (.int .i64 X) ∧ W.cell? ⟨bB, 1, none⟩ = some (.int .i64 Y) ∧ W.cell? ⟨bB, 2, none⟩ = some (.int .i64 Z) :=
  ⟨h.xx.box.cell, h.zz.box.cell, h.yy.box.cell, by simp [World.cell?, h.bx.1], by simp [World.cell?, h.bx.1], by simp [World.cell?, h.bx.1]⟩
theorem wrap_in {v : Int} (h1 : -1000000 ≤ v) (h2 : v ≤ 1000000) : IntKind.i64.wrap v = v := IntWalk.i64_in _ (by omega)
theorem side_s1 {X Y Z i x z y N : Nat} (hin : ∀ s ∈ sidesAt X Y Z i x z y, s < N) (hN : N ≤ 262144) (hi : i < N) (hX : X ≤ 256) (hXZ : X * Z ≤ 65536) : decide ((x : Int) + 1 < X) = true → i + 1 < N ∧ IntKind.i64.wrap ((i : Int) + 1) = ((i + 1 : Nat) : Int) := fun h => by
  have h' := of_decide_eq_true h
  have cXZ : ((X * Z : Nat) : Int) = (X : Int) * Z := Int.natCast_mul _ _
  have hc : x + 1 < X := by omega
  have hm : i + 1 < N := hin _ (by simp [sidesAt, hc])
  refine ⟨hm, ?_⟩
  rw [wrap_in (by omega) (by omega)]
  omega
theorem side_e1 (X i x : Nat) : (if decide ((x : Int) + 1 < X) = true then [i + 1] else []) = if x + 1 < X then [i + 1] else [] := by
  simp only [decide_eq_true_eq]
  congr 1
  exact propext ⟨fun h => by omega, fun h => by omega⟩
theorem side_s2 {X Y Z i x z y N : Nat} (hin : ∀ s ∈ sidesAt X Y Z i x z y, s < N) (hN : N ≤ 262144) (hi : i < N) (hX : X ≤ 256) (hXZ : X * Z ≤ 65536) (h1 : 0 < x → 1 ≤ i) : decide (0 < x) = true → i - 1 < N ∧ IntKind.i64.wrap ((i : Int) + -1) = ((i - 1 : Nat) : Int) := fun h => by
  have h' := of_decide_eq_true h
  have cXZ : ((X * Z : Nat) : Int) = (X : Int) * Z := Int.natCast_mul _ _
  have hc : 0 < x := by omega
  have hm : i - 1 < N := hin _ (by simp [sidesAt, hc])
  have := h1 (by omega)
  refine ⟨hm, ?_⟩
  rw [wrap_in (by omega) (by omega)]
  omega
theorem side_e2 (i x : Nat) : (if decide (0 < x) = true then [i - 1] else []) = if 0 < x then [i - 1] else [] := by
  simp only [decide_eq_true_eq]
theorem side_s3 {X Y Z i x z y N : Nat} (hin : ∀ s ∈ sidesAt X Y Z i x z y, s < N) (hN : N ≤ 262144) (hi : i < N) (hX : X ≤ 256) (hXZ : X * Z ≤ 65536) : decide ((z : Int) + 1 < Z) = true → i + X < N ∧ IntKind.i64.wrap ((i : Int) + (X : Int)) = ((i + X : Nat) : Int) := fun h => by
  have h' := of_decide_eq_true h
  have cXZ : ((X * Z : Nat) : Int) = (X : Int) * Z := Int.natCast_mul _ _
  have hc : z + 1 < Z := by omega
  have hm : i + X < N := hin _ (by simp [sidesAt, hc])
  refine ⟨hm, ?_⟩
  rw [wrap_in (by omega) (by omega)]
  omega
theorem side_e3 (X Z i z : Nat) : (if decide ((z : Int) + 1 < Z) = true then [i + X] else []) = if z + 1 < Z then [i + X] else [] := by
  simp only [decide_eq_true_eq]
  congr 1
  exact propext ⟨fun h => by omega, fun h => by omega⟩
theorem side_s4 {X Y Z i x z y N : Nat} (hin : ∀ s ∈ sidesAt X Y Z i x z y, s < N) (hN : N ≤ 262144) (hi : i < N) (hX : X ≤ 256) (hXZ : X * Z ≤ 65536) (h1 : 0 < z → X ≤ i) : decide (0 < z) = true → i - X < N ∧ IntKind.i64.wrap ((i : Int) + -(X : Int)) = ((i - X : Nat) : Int) := fun h => by
  have h' := of_decide_eq_true h
  have cXZ : ((X * Z : Nat) : Int) = (X : Int) * Z := Int.natCast_mul _ _
  have hc : 0 < z := by omega
  have hm : i - X < N := hin _ (by simp [sidesAt, hc])
  have := h1 (by omega)
  refine ⟨hm, ?_⟩
  rw [wrap_in (by omega) (by omega)]
  omega
theorem side_e4 (X i z : Nat) : (if decide (0 < z) = true then [i - X] else []) = if 0 < z then [i - X] else [] := by
  simp only [decide_eq_true_eq]
theorem side_s5 {X Y Z i x z y N : Nat} (hin : ∀ s ∈ sidesAt X Y Z i x z y, s < N) (hN : N ≤ 262144) (hi : i < N) (hX : X ≤ 256) (hXZ : X * Z ≤ 65536) : decide ((y : Int) + 1 < Y) = true → i + X * Z < N ∧ IntKind.i64.wrap ((i : Int) + (X : Int) * Z) = ((i + X * Z : Nat) : Int) := fun h => by
  have h' := of_decide_eq_true h
  have cXZ : ((X * Z : Nat) : Int) = (X : Int) * Z := Int.natCast_mul _ _
  have hc : y + 1 < Y := by omega
  have hm : i + X * Z < N := hin _ (by simp [sidesAt, hc])
  refine ⟨hm, ?_⟩
  rw [wrap_in (by omega) (by omega)]
  omega
theorem side_e5 (X Y Z i y : Nat) : (if decide ((y : Int) + 1 < Y) = true then [i + X * Z] else []) = if y + 1 < Y then [i + X * Z] else [] := by
  simp only [decide_eq_true_eq]
  congr 1
  exact propext ⟨fun h => by omega, fun h => by omega⟩
theorem side_s6 {X Y Z i x z y N : Nat} (hin : ∀ s ∈ sidesAt X Y Z i x z y, s < N) (hN : N ≤ 262144) (hi : i < N) (hX : X ≤ 256) (hXZ : X * Z ≤ 65536) (h1 : 0 < y → X * Z ≤ i) : decide (0 < y) = true → i - X * Z < N ∧ IntKind.i64.wrap ((i : Int) + -((X : Int) * Z)) = ((i - X * Z : Nat) : Int) := fun h => by
  have h' := of_decide_eq_true h
  have cXZ : ((X * Z : Nat) : Int) = (X : Int) * Z := Int.natCast_mul _ _
  have hc : 0 < y := by omega
  have hm : i - X * Z < N := hin _ (by simp [sidesAt, hc])
  have := h1 (by omega)
  refine ⟨hm, ?_⟩
  rw [wrap_in (by omega) (by omega)]
  omega
theorem side_e6 (X Z i y : Nat) : (if decide (0 < y) = true then [i - X * Z] else []) = if 0 < y then [i - X * Z] else [] := by
  simp only [decide_eq_true_eq]
theorem side_l (c : Prop) [Decidable c] (v : Nat) : (if c then [v] else []).length ≤ 1 := by split <;> simp
end Go.Proofs.Ytmgiabehooghcaa
namespace Go.Proofs.Ytmgiabehooghcaa
open Go.RowKit Go.Shelf
attribute [local go_sem] Oper.semAt_some

theorem sides1_in (F : Fence) (n : Nat) (h40 : F.fn 40) (h41 : F.fn 41) (hro : F.round = none) (hd : F.depth = none) (hn : 3 ≤ n) {bl aB xB bB zB yyB l : Nat} {X Y Z i x z y : Nat} {cv : Value} (N : Nat) (J : List (Fin N) → World → Prop)
    (hY : ∀ pre (s : Fin N) W, J pre W → pre.length < 6 → YieldAt F (n - 1) Try.prog l #[.int .i64 s.val] W fun e W' => e = .returned (.bool true) ∧ J (pre ++ [s]) W' ∧ KpL bl W W')
    (W : World) (hJa : ∀ ys W o, J ys W → J ys (W.alloc o)) (hf : ∀ k, foot bl W k → k < W.heap.size)
    (haa : Kept bl W aB #[.int .i64 i] 3) (hxx : Kept bl W xB #[.int .i64 x] 3) (hzz : Kept bl W zB #[.int .i64 z] 3) (hyy : Kept bl W yyB #[.int .i64 y] 3) (hbx : Kept bl W bB #[.int .i64 X, .int .i64 Y, .int .i64 Z, cv] 24)
    (hin : ∀ s ∈ sidesAt X Y Z i x z y, s < N) (hX : X ≤ 256) (hYb : Y ≤ 256) (hZ : Z ≤ 256) (hxX : x < X) (hzZ : z < Z) (hyY : y < Y) (hN : N ≤ 262144) (hi : i < N)
    (hx1 : 0 < x → 1 ≤ i) (hz1 : 0 < z → X ≤ i) (hy1 : 0 < y → X * Z ≤ i) (h0 : J [] W) :
    CallsIn F n Try.prog 40 #[.func (.yield l) #[] #[], .pointer (some ⟨aB, 0, none⟩), .pointer (some ⟨xB, 0, none⟩), .pointer (some ⟨bB, 0, none⟩), .pointer (some ⟨zB, 0, none⟩), .pointer (some ⟨yyB, 0, none⟩)] W fun e W' => (∃ v, e = .returned v) ∧
      ∃ ys : List (Fin N), ys.map (fun s => s.val) = sidesAt X Y Z i x z y ∧ J ys W' := by
  have hbl : bl < W.heap.size := hf _ (.inl rfl)
  refine callsIn_of_wp Try.func40 rfl h40 ?_ hro
  simp only [Try.ntmps40, List.size_toArray, List.length_cons, List.length_nil, Nat.reduceAdd, Nat.reduceSub, Array.replicate_succ, Array.replicate_zero, List.push_toArray, List.append_toArray, List.nil_append, List.cons_append]
  have hset := alloc_set (W.alloc (.cells #[.func (.yield l) #[] #[]] 52)) 4 (.bool false) (.bool true)
  rw [World.size_alloc] at hset
  have k1 : Kept bl (W.alloc (.cells #[.func (.yield l) #[] #[]] 52)) W.heap.size #[.func (.yield l) #[] #[]] 52 := Kept.new hf _ _
  have f1 := foot_alloc hf (.cells #[.func (.yield l) #[] #[]] 52)
  have hbl1 : bl < (W.alloc (.cells #[.func (.yield l) #[] #[]] 52)).heap.size := f1 _ (.inl rfl)
  have k2 : Kept bl ((W.alloc (.cells #[.func (.yield l) #[] #[]] 52)).alloc (.cells #[.bool true] 4)) (W.heap.size + 1) #[.bool true] 4 := by
    have := Kept.new f1 #[.bool true] 4; rwa [World.size_alloc] at this
  have hH : Here bl (W.heap.size + 1) W.heap.size aB xB bB zB yyB l X Y Z i x z y cv ((W.alloc (.cells #[.func (.yield l) #[] #[]] 52)).alloc (.cells #[.bool true] 4)) :=
    ⟨k2, k1.alloc hbl1 _, (haa.alloc hbl _).alloc hbl1 _, (hxx.alloc hbl _).alloc hbl1 _, (hzz.alloc hbl _).alloc hbl1 _, (hyy.alloc hbl _).alloc hbl1 _, (hbx.alloc hbl _).alloc hbl1 _⟩
  have ha0 : ∃ ys : List (Fin N), ys.map (fun s => s.val) = ([] : List Nat) ∧ J ys ((W.alloc (.cells #[.func (.yield l) #[] #[]] 52)).alloc (.cells #[.bool true] 4)) := ⟨[], rfl, hJa _ _ _ (hJa _ _ _ h0)⟩
  generalize hW2 : (W.alloc (.cells #[.func (.yield l) #[] #[]] 52)).alloc (.cells #[.bool true] 4) = W2 at hH ha0 hset
  have hXZ : X * Z ≤ 65536 := Nat.mul_le_mul hX hZ
  have hY' : ∀ pre (s : Fin N) W, J pre W → pre.length < 6 → YieldAt F (n - 1 - 1) Try.prog l #[.int .i64 s.val] W fun e W' => e = .returned (.bool true) ∧ J (pre ++ [s]) W' ∧ KpL bl W W' := fun pre s W h1 h2 => YieldAt.anyDepth' hd _ (hY pre s W h1 h2)
  have H1 := Lib.hid (side_s1 hin hN hi hX hXZ)
  have H2 := Lib.hid (side_s2 hin hN hi hX hXZ hx1)
  have H3 := Lib.hid (side_s3 hin hN hi hX hXZ)
  have H4 := Lib.hid (side_s4 hin hN hi hX hXZ hz1)
  have H5 := Lib.hid (side_s5 hin hN hi hX hXZ)
  have H6 := Lib.hid (side_s6 hin hN hi hX hXZ hy1)
  have bx1 : (x : Int) + 1 ≤ 257 := by omega
  have bx0 : (0 : Int) ≤ x := by omega
  have bz1 : (z : Int) + 1 ≤ 257 := by omega
  have bz0 : (0 : Int) ≤ z := by omega
  have by1 : (y : Int) + 1 ≤ 257 := by omega
  have by0 : (0 : Int) ≤ y := by omega
  have bX : (X : Int) ≤ 256 := by omega
  have bX0 : (0 : Int) ≤ X := by omega
  have bZ : (Z : Int) ≤ 256 := by omega
  have bZ0 : (0 : Int) ≤ Z := by omega
  have bXZ2 : (X : Int) * Z ≤ 65536 := by have := Int.natCast_mul X Z; omega
  have bXZ0 : (0 : Int) ≤ (X : Int) * Z := Int.mul_nonneg bX0 bZ0
  have hw1 : IntKind.i64.wrap ((X : Int) * Z) = (X : Int) * Z := wrap_in (by omega) (by omega)
  have hneg : -(X : Int) * Z = -((X : Int) * Z) := Int.neg_mul _ _
  have hw2 : IntKind.i64.wrap (-(X : Int) * Z) = -((X : Int) * Z) := by rw [hneg]; exact wrap_in (by omega) (by omega)
  clear hin hN hi hX hXZ hx1 hz1 hy1 hYb hZ hxX hzZ hyY hneg hY hJa hf haa hxx hzz hyy hbx h0 hbl k1 f1 hbl1 k2
  obtain ⟨cx, cz, cy, c0, c1, c2⟩ := hH.cells
  gi_wp2_with fail
  refine (tell_in F (n - 1) h41 hro (by omega) N J hY' _ _ ha0 hH (by simp) (decide ((x : Int) + 1 < X)) _ (i + 1) H1.out).mono ?_
  clear ha0 hH cx cz cy c0 c1 c2 H1 hset hW2
  rintro e V1 ⟨⟨v1, rfl⟩, ha0, hH⟩
  obtain ⟨cx, cz, cy, c0, c1, c2⟩ := hH.cells
  gi_wp2_with fail
  refine (tell_in F (n - 1) h41 hro (by omega) N J hY' _ _ ha0 hH (by simp only [List.length_append, List.length_nil]; have := side_l (decide ((x : Int) + 1 < X) = true) (i + 1); omega) (decide (0 < x)) _ (i - 1) H2.out).mono ?_
  clear ha0 hH cx cz cy c0 c1 c2 H2
  rintro e V2 ⟨⟨v2, rfl⟩, ha0, hH⟩
  obtain ⟨cx, cz, cy, c0, c1, c2⟩ := hH.cells
  gi_wp2_with fail
  refine (tell_in F (n - 1) h41 hro (by omega) N J hY' _ _ ha0 hH (by simp only [List.length_append, List.length_nil]; have := side_l (decide ((x : Int) + 1 < X) = true) (i + 1); have := side_l (decide (0 < x) = true) (i - 1); omega) (decide ((z : Int) + 1 < Z)) _ (i + X) H3.out).mono ?_
  clear ha0 hH cx cz cy c0 c1 c2 H3
  rintro e V3 ⟨⟨v3, rfl⟩, ha0, hH⟩
  obtain ⟨cx, cz, cy, c0, c1, c2⟩ := hH.cells
  gi_wp2_with fail
  refine (tell_in F (n - 1) h41 hro (by omega) N J hY' _ _ ha0 hH (by simp only [List.length_append, List.length_nil]; have := side_l (decide ((x : Int) + 1 < X) = true) (i + 1); have := side_l (decide (0 < x) = true) (i - 1); have := side_l (decide ((z : Int) + 1 < Z) = true) (i + X); omega) (decide (0 < z)) _ (i - X) H4.out).mono ?_
  clear ha0 hH cx cz cy c0 c1 c2 H4
  rintro e V4 ⟨⟨v4, rfl⟩, ha0, hH⟩
  obtain ⟨cx, cz, cy, c0, c1, c2⟩ := hH.cells
  gi_wp2_with fail
  refine (tell_in F (n - 1) h41 hro (by omega) N J hY' _ _ ha0 hH (by simp only [List.length_append, List.length_nil]; have := side_l (decide ((x : Int) + 1 < X) = true) (i + 1); have := side_l (decide (0 < x) = true) (i - 1); have := side_l (decide ((z : Int) + 1 < Z) = true) (i + X); have := side_l (decide (0 < z) = true) (i - X); omega) (decide ((y : Int) + 1 < Y)) _ (i + X * Z) H5.out).mono ?_
  clear ha0 hH cx cz cy c0 c1 c2 H5
  rintro e V5 ⟨⟨v5, rfl⟩, ha0, hH⟩
  obtain ⟨cx, cz, cy, c0, c1, c2⟩ := hH.cells
  gi_wp2_with fail
  refine (tell_in F (n - 1) h41 hro (by omega) N J hY' _ _ ha0 hH (by simp only [List.length_append, List.length_nil]; have := side_l (decide ((x : Int) + 1 < X) = true) (i + 1); have := side_l (decide (0 < x) = true) (i - 1); have := side_l (decide ((z : Int) + 1 < Z) = true) (i + X); have := side_l (decide (0 < z) = true) (i - X); have := side_l (decide ((y : Int) + 1 < Y) = true) (i + X * Z); omega) (decide (0 < y)) _ (i - X * Z) H6.out).mono ?_
  clear ha0 hH cx cz cy c0 c1 c2 H6
  rintro e V6 ⟨⟨v6, rfl⟩, ha0, hH⟩
  gi_wp2
  go_end0
  refine ⟨⟨_, rfl⟩, ?_⟩
  obtain ⟨ys, hys, hJ⟩ := ha0
  refine ⟨ys, ?_, hJ⟩
  rw [hys]
  simp only [side_e1, side_e2, side_e3, side_e4, side_e5, side_e6]
  simp only [sidesAt, List.nil_append, List.append_assoc]
end Go.Proofs.Ytmgiabehooghcaa
namespace Go.Proofs.Ytmgiabehooghcaa
open Go.RowKit Go.Shelf
attribute [local go_sem] Oper.semAt_some

noncomputable def rangeOf : Code → Option (Operand × Array Tmp × Code × Code)
  | .seq a b => match rangeOf a with | some r => some r | none => rangeOf b
  | .block _ c => rangeOf c
  | .loop c => rangeOf c
  | .cond _ a b => match rangeOf a with | some r => some r | none => rangeOf b
  | .rangeFunc g ps a b => some (g, ps, a, b)
  | _ => none
noncomputable def rg : Operand × Array Tmp × Code × Code := ((rangeOf (Try.f26.body.getD .skip)).getD (.tmp 0, #[], .skip, .skip))

noncomputable def regOf (k : Nat) : Code → Code
  | .seq a b => match regOf k a with | .skip => regOf k b | r => r
  | .block _ c => regOf k c
  | .loop c => regOf k c
  | .cond _ a b => match regOf k a with | .skip => regOf k b | r => r
  | .rangeFunc _ _ a b => match regOf k a with | .skip => regOf k b | r => r
  | .region id ops d => if id == k then .region id ops d else .skip
  | _ => .skip
def addX (X : Nat → Bool) (k : Nat) : Nat → Bool := fun j => X j || decide (j = k)
@[simp] theorem addX_self (X : Nat → Bool) (k : Nat) : addX X k k = true := by simp [addX]
theorem addX_ne (X : Nat → Bool) {k j : Nat} (h : j ≠ k) : addX X k j = X j := by simp [addX, h]
def Closed (ops : Array Oper) (X : Nat → Bool) : Prop := ∀ j o, ops[j]? = some o → X j = true → ∀ e ∈ o.after, Region.binds .any e = true → X e.on = true
def StepRI (F : Fence) (n : Nat) (P : Program) (ops : Array Oper) (Q : Exit → Act → World → Prop) (I : (Nat → Bool) → Act → World → Prop) (k : Nat) (o : Oper) : Prop :=
  ∀ X a w, X k = false → (∀ e ∈ o.after, Region.binds .any e = true → X e.on = true) → Closed ops X → I X a w →
    if Region.wanted o (yielded ops a.tmps) then o.wpIn F n P a w (I (addX X k)) Q else (∀ f, o.about P w a.eval = some f → F.fn f) ∧ I (addX X k) (a.put o.dst undef) w
def StepsRI (F : Fence) (n : Nat) (P : Program) (ops : Array Oper) (Q : Exit → Act → World → Prop) (I : (Nat → Bool) → Act → World → Prop) : Nat → List Oper → Prop
  | _, [] => True
  | k, o :: r => StepRI F n P ops Q I k o ∧ StepsRI F n P ops Q I (k + 1) r
theorem StepsRI.get {F : Fence} {n : Nat} {P : Program} {ops : Array Oper} {Q : Exit → Act → World → Prop} {I : (Nat → Bool) → Act → World → Prop} : ∀ {l : List Oper} {k : Nat}, StepsRI F n P ops Q I k l → ∀ j o, l[j]? = some o → StepRI F n P ops Q I (k + j) o
  | [], _, _, j, o, h => by simp at h
  | x :: r, k, hs, 0, o, h => by simp at h; subst h; exact hs.1
  | x :: r, k, hs, j + 1, o, h => by
    have := hs.2.get j o (by simpa using h)
    rwa [show k + 1 + j = k + (j + 1) from by omega] at this
def backO : Nat → List Oper → Bool
  | _, [] => true
  | k, o :: r => o.after.all (fun e => !Region.binds .any e || decide (e.on < k)) && backO (k + 1) r
theorem backO_get : ∀ {l : List Oper} {k : Nat}, backO k l = true → ∀ j o, l[j]? = some o → ∀ e ∈ o.after, Region.binds .any e = true → e.on < k + j
  | [], _, _, j, o, h => by simp at h
  | x :: r, k, hb, 0, o, h => by
    simp only [List.getElem?_cons_zero, Option.some.injEq] at h; subst h
    intro e he hbe
    simp only [backO, Bool.and_eq_true] at hb
    have := (Array.all_eq_true'.1 hb.1) e he
    simpa [hbe] using this
  | x :: r, k, hb, j + 1, o, h => by
    simp only [backO, Bool.and_eq_true] at hb
    have := backO_get hb.2 j o (by simpa using h)
    rwa [show k + 1 + j = k + (j + 1) from by omega] at this
def cntF (listed : Array Bool) : Nat → Nat
  | 0 => 0
  | k + 1 => cntF listed k + if listed.getD k true = false then 1 else 0
theorem getD_set_ne (listed : Array Bool) (d : Bool) {i k : Nat} (h : i ≠ k) : (listed.setIfInBounds i true).getD k d = listed.getD k d := by simp [h]
theorem cntF_le {listed : Array Bool} {i : Nat} : ∀ {k : Nat}, cntF (listed.setIfInBounds i true) k ≤ cntF listed k
  | 0 => Nat.le_refl _
  | k + 1 => by
    have ih := cntF_le (listed := listed) (i := i) (k := k)
    simp only [cntF]
    by_cases hik : i = k
    · subst hik
      have : (listed.setIfInBounds i true).getD i true = true := by
        rcases Nat.lt_or_ge i listed.size with h | h <;> simp [h]
      rw [this]; simp; omega
    · rw [getD_set_ne _ _ hik]; omega
theorem cntF_set {listed : Array Bool} {i : Nat} (hi : listed.getD i true = false) : ∀ {k : Nat}, i < k → cntF (listed.setIfInBounds i true) k + 1 ≤ cntF listed k
  | 0, h => by omega
  | k + 1, h => by
    simp only [cntF]
    by_cases hik : i = k
    · subst hik
      have h1 : (listed.setIfInBounds i true).getD i true = true := by
        rcases Nat.lt_or_ge i listed.size with h | h <;> simp [h]
      have := cntF_le (listed := listed) (i := i) (k := i)
      rw [h1, hi]; simp; omega
    · have ih := cntF_set hi (k := k) (by omega)
      rw [getD_set_ne _ _ hik]; omega
theorem cntF_zero {listed : Array Bool} : ∀ {k : Nat}, cntF listed k = 0 → ∀ i, i < k → listed.getD i true = true
  | 0, _, i, h => by omega
  | k + 1, hc, i, h => by
    simp only [cntF] at hc
    by_cases hik : i = k
    · subst hik
      cases hv : listed.getD i true with
      | true => rfl
      | false => rw [hv] at hc; simp at hc
    · exact cntF_zero (k := k) (by omega) i (by omega)
theorem getD_both {listed : Array Bool} {i : Nat} (hi : i < listed.size) : listed.getD i true = listed.getD i false := by simp [hi]
theorem region_inv {F : Fence} {n : Nat} {P : Program} {ops : Array Oper} {Q : Exit → Act → World → Prop} {id : Nat} {a : Act} {w : World} (I : (Nat → Bool) → Act → World → Prop) (hm : P.follows .mixedOrders = true) (hb : backO 0 ops.toList = true)
    (h0 : I (fun _ => false) a { w with drawn := w.drawn + 1 }) (hs : StepsRI F n P ops Q I 0 ops.toList) (hend : ∀ X a w, (∀ i, i < ops.size → X i = true) → I X a w → Q .normal a w) : (Code.region id ops true).wpIn F n P Q a w := by
  refine wpIn_region_any hm ?_
  have hback : ∀ (j : Nat) (o : Oper), ops[j]? = some o → ∀ e ∈ o.after, Region.binds .any e = true → e.on < j := fun j o ho e he hbe => by
    have := backO_get hb j o (by simpa using ho) e he hbe; omega
  have done : ∀ (listed : Array Bool), listed.size = ops.size → Region.ready .any ops listed = [] → ∀ n i, i < n → i < ops.size → listed.getD i false = true := fun listed hsz hr n => by
    induction n with
    | zero => intro i h; omega
    | succ n ih =>
      intro i hin hi
      cases hv : listed.getD i false with
      | true => rfl
      | false =>
        exfalso
        have ho : ops[i]? = some ops[i] := Array.getElem?_eq_getElem hi
        have : i ∈ Region.ready .any ops listed := mem_ready.2 ⟨by rw [getD_both (by omega)]; exact hv, ops[i], ho, fun e he hbe => ih e.on (by have := hback i _ ho e he hbe; omega) (by have := hback i _ ho e he hbe; omega)⟩
        rw [hr] at this; cases this
  have key : ∀ (fuel : Nat) (listed : Array Bool) (a : Act) (w : World), listed.size = ops.size → cntF listed ops.size ≤ fuel → Closed ops (fun i => listed.getD i false) → I (fun i => listed.getD i false) a w → wpAnyIn F n P .any ops Q fuel listed a w := by
    intro fuel
    induction fuel with
    | zero =>
      intro listed a w hsz hc hC h
      have hall : ∀ i, i < ops.size → listed.getD i false = true := fun i hi => by rw [← getD_both (by omega)]; exact cntF_zero (Nat.le_zero.1 hc) i hi
      refine ⟨?_, hend _ a w hall h⟩
      rcases hr : Region.ready .any ops listed with _ | ⟨i, r⟩
      · rfl
      · have hi : i ∈ Region.ready .any ops listed := by rw [hr]; simp
        obtain ⟨h1, o, h2, _⟩ := mem_ready.1 hi
        have hlt := (Array.getElem?_eq_some_iff.1 h2).1
        rw [getD_both (by omega), hall i hlt] at h1
        cases h1
    | succ fuel ih =>
      intro listed a w hsz hc hC h
      refine ⟨fun hr => hend _ a w (fun i hi => done listed hsz hr (i + 1) i (by omega) hi) h, fun i hi => ?_⟩
      obtain ⟨h1, o, h2, h3⟩ := mem_ready.1 hi
      have hlt := (Array.getElem?_eq_some_iff.1 h2).1
      have hXi : listed.getD i false = false := by rw [← getD_both (by omega)]; exact h1
      have hst := hs.get i o (by simpa using h2)
      rw [Nat.zero_add] at hst
      have hstep := hst _ a w hXi h3 hC h
      have hX : (fun k => (listed.setIfInBounds i true).getD k false) = addX (fun k => listed.getD k false) i := by
        funext k
        by_cases hki : k = i
        · subst hki; simp [addX, show k < listed.size from by omega]
        · simp [addX, hki, Ne.symm hki]
      have hih : ∀ a' w', I (addX (fun k => listed.getD k false) i) a' w' → wpAnyIn F n P .any ops Q fuel (listed.setIfInBounds i true) a' w' := fun a' w' h' =>
        ih _ a' w' (by simp [hsz]) (by have := cntF_set h1 hlt; omega) (by
          rw [hX]
          intro j oj hoj hXj e he hbe
          by_cases hji : j = i
          · subst hji
            rw [h2] at hoj; cases hoj
            have := h3 e he hbe
            simp only [addX, Bool.or_eq_true]; exact .inl this
          · rw [addX_ne _ hji] at hXj
            have := hC j oj hoj hXj e he hbe
            simp only [addX, Bool.or_eq_true]; exact .inl this) (by rw [hX]; exact h')
      unfold wpOpIn
      simp only [h2]
      split
      · rename_i hw
        rw [if_pos hw] at hstep
        exact Oper.wpIn_mono hih hstep
      · rename_i hw
        rw [if_neg hw] at hstep
        exact ⟨hstep.1, hih _ _ hstep.2⟩
  have hrep : ∀ i, (Array.replicate ops.size false).getD i false = false := fun i => by rcases Nat.lt_or_ge i ops.size with h | h <;> simp [h]
  have := key ops.size (Array.replicate ops.size false) a { w with drawn := w.drawn + 1 } (by simp) ?_ (fun j o _ hX => by simp only [hrep] at hX; cases hX) ?_
  · simpa using this
  · have : ∀ k, cntF (Array.replicate ops.size false) k ≤ k := fun k => by
      induction k with
      | zero => exact Nat.le_refl _
      | succ k ih => simp only [cntF]; split <;> omega
    exact this _
  · have : (fun i => (Array.replicate ops.size false).getD i false) = fun _ => false := by
      funext i
      rcases Nat.lt_or_ge i ops.size with h | h <;> simp [h]
    rw [this]; exact h0

structure RI (inp : List (Nat × Value)) (kn : List (Nat × Nat × Value)) (sz : Nat) (ds : List Deferred) (Wp : (Nat → Bool) → World → Prop) (X : Nat → Bool) (a : Act) (w : World) : Prop where
  size : a.tmps.size = sz
  defers : a.defers = ds
  inp : ∀ p ∈ inp, a.tmps[p.1]?.getD undef = p.2
  kn : ∀ p ∈ kn, X p.1 = true → a.tmps[p.2.1]?.getD undef = p.2.2
  wp : Wp X w
theorem mem_of_lookup {α : Type} {l : List (Nat × α)} {t : Nat} {v : α} (h : l.lookup t = some v) : (t, v) ∈ l := by
  induction l with
  | nil => cases h
  | cons p l ih =>
    obtain ⟨k, x⟩ := p
    rw [List.lookup_cons] at h
    split at h
    · rename_i e
      have : t = k := by simpa using e
      subst this
      cases h
      exact List.mem_cons_self
    · exact List.mem_cons_of_mem _ (ih h)
theorem put_getD (a : Act) (d t : Nat) (v : Value) (hd : d < a.tmps.size) : (a.put (some d) v).tmps[t]?.getD undef = if t = d then v else a.tmps[t]?.getD undef := by
  unfold Act.put
  by_cases h : t = d
  · subst h; simp [hd]
  · simp [h, Ne.symm h]
theorem RI.put {inp : List (Nat × Value)} {kn : List (Nat × Nat × Value)} {sz : Nat} {ds : List Deferred} {Wp : (Nat → Bool) → World → Prop} {X : Nat → Bool} {a : Act} {w w' : World} (h : RI inp kn sz ds Wp X a w) {k d : Nat} {v : Value} (hd : d < sz)
    (h1 : ∀ p ∈ inp, p.1 ≠ d) (h2 : ∀ p ∈ kn, (p.1 = k ↔ p.2.1 = d)) (h3 : ∀ p ∈ kn, p.1 = k → p.2.2 = v) (hw : Wp (addX X k) w') : RI inp kn sz ds Wp (addX X k) (a.put (some d) v) w' where
  size := by unfold Act.put; simpa using h.size
  defers := h.defers
  inp := fun p hp => by rw [put_getD _ _ _ _ (by rw [h.size]; exact hd), if_neg (h1 p hp)]; exact h.inp p hp
  kn := fun p hp hx => by
    rw [put_getD _ _ _ _ (by rw [h.size]; exact hd)]
    by_cases e : p.1 = k
    · rw [if_pos ((h2 p hp).1 e)]; exact (h3 p hp e).symm
    · rw [if_neg (fun e' => e ((h2 p hp).2 e'))]
      rw [addX_ne X e] at hx
      exact h.kn p hp hx
  wp := hw
theorem RI.put_none {inp : List (Nat × Value)} {kn : List (Nat × Nat × Value)} {sz : Nat} {ds : List Deferred} {Wp : (Nat → Bool) → World → Prop} {X : Nat → Bool} {a : Act} {w w' : World} (h : RI inp kn sz ds Wp X a w) {k : Nat} {v : Value}
    (h2 : ∀ p ∈ kn, p.1 ≠ k) (hw : Wp (addX X k) w') : RI inp kn sz ds Wp (addX X k) (a.put none v) w' where
  size := h.size
  defers := h.defers
  inp := h.inp
  kn := fun p hp hx => by rw [addX_ne X (h2 p hp)] at hx; exact h.kn p hp hx
  wp := hw

theorem RI.put' {inp : List (Nat × Value)} {kn : List (Nat × Nat × Value)} {sz : Nat} {ds : List Deferred} {Wp : (Nat → Bool) → World → Prop} {X : Nat → Bool} {a : Act} {w w' : World} (h : RI inp kn sz ds Wp X a w) {k d : Nat} {v : Value} (hd : d < sz)
    (h1 : ∀ p ∈ inp, p.1 ≠ d) (h2 : ∀ p ∈ kn, (p.1 = k ↔ p.2.1 = d)) (h3 : ∀ p ∈ kn, p.1 = k → p.2.2 = v) (hw : Wp (addX X k) w') : RI inp kn sz ds Wp (addX X k) { tmps := a.tmps.setIfInBounds d v, defers := a.defers } w' := h.put hd h1 h2 h3 hw
theorem RI.put_none' {inp : List (Nat × Value)} {kn : List (Nat × Nat × Value)} {sz : Nat} {ds : List Deferred} {Wp : (Nat → Bool) → World → Prop} {X : Nat → Bool} {a : Act} {w w' : World} (h : RI inp kn sz ds Wp X a w) {k : Nat}
    (h2 : ∀ p ∈ kn, p.1 ≠ k) (hw : Wp (addX X k) w') : RI inp kn sz ds Wp (addX X k) a w' := by
  have := h.put_none (v := undef) h2 hw
  simpa [Act.put] using this
theorem RI.p {inp : List (Nat × Value)} {kn : List (Nat × Nat × Value)} {sz : Nat} {ds : List Deferred} {Wp : (Nat → Bool) → World → Prop} {X : Nat → Bool} {a : Act} {w w' : World} (h : RI inp kn sz ds Wp X a w) (k d : Nat) {v : Value} (hw : Wp (addX X k) w') (hd : d < sz := by decide)
    (h1 : ∀ p ∈ inp, p.1 ≠ d := by simp) (h2 : ∀ p ∈ kn, (p.1 = k ↔ p.2.1 = d) := by simp) (h3 : ∀ p ∈ kn, p.1 = k → p.2.2 = v := by simp) : RI inp kn sz ds Wp (addX X k) { tmps := a.tmps.setIfInBounds d v, defers := a.defers } w' := h.put' hd h1 h2 h3 hw
theorem region_seq {F : Fence} {n : Nat} {P : Program} {ops : Array Oper} {Q : Exit → Act → World → Prop} {id : Nat} {a : Act} {w : World} (I : (Nat → Bool) → Act → World → Prop) (hb : backO 0 ops.toList = true)
    (h0 : I (fun _ => false) a w) (hs : StepsRI F n P ops Q I 0 ops.toList) (hend : ∀ X a w, (∀ i, i < ops.size → X i = true) → I X a w → Q .normal a w) : (Code.region id ops false).wpIn F n P Q a w := by
  refine wpIn_region_list ?_
  have hback := fun j o h => backO_get (k := 0) hb j o h
  have key : ∀ (r : List Oper) (k : Nat) (X : Nat → Bool) (a : Act) (w : World), ops.toList.drop k = r → (∀ i, X i = decide (i < k)) → I X a w → wpListIn F n P ops Q r a w := by
    intro r
    induction r with
    | nil =>
      intro k X a w hd hX hI
      refine hend X a w (fun i hi => ?_) hI
      rw [hX, decide_eq_true_eq]
      have := congrArg List.length hd
      simp at this
      omega
    | cons o r ih =>
      intro k X a w hd hX hI
      have hk : ops.toList[k]? = some o := by
        have := congrArg List.head? hd
        simpa [List.head?_drop] using this
      have hr : ops.toList.drop (k + 1) = r := by
        have := congrArg List.tail hd
        simpa [List.tail_drop] using this
      have hst := hs.get k o hk
      rw [Nat.zero_add] at hst
      have hstep := hst X a w (by rw [hX]; simp) (fun e he hbe => by rw [hX, decide_eq_true_eq]; have := hback k o hk e he hbe; omega) (fun j oj hoj hXj e he hbe => by
        rw [hX, decide_eq_true_eq] at hXj ⊢
        have := hback j oj (by simpa using hoj) e he hbe
        omega) hI
      have hX' : ∀ i, addX X k i = decide (i < k + 1) := fun i => by
        unfold addX; rw [hX]
        rcases Nat.lt_trichotomy i k with h | h | h
        · simp [h, show i < k + 1 from by omega]
        · simp [h]
        · simp [show ¬ i < k from by omega, show ¬ i = k from by omega, show ¬ i < k + 1 from by omega]
      unfold wpListIn
      split
      · rename_i hw
        rw [if_pos hw] at hstep
        exact Oper.wpIn_mono (fun a' w' h' => ih (k + 1) _ a' w' hr hX' h') hstep
      · rename_i hw
        rw [if_neg hw] at hstep
        exact ⟨hstep.1, ih (k + 1) _ _ _ hr hX' hstep.2⟩
  exact key ops.toList 0 (fun _ => false) a w (by simp) (fun i => by simp) h0

theorem slot_bool {a : Act} {t : Nat} {b : Bool} (h : a.tmps[t]?.getD undef = .bool b) : a.tmps[t]? = some (.bool b) := by
  cases hh : a.tmps[t]? with
  | none => rw [hh] at h; simp [undef] at h
  | some v => rw [hh] at h; simpa using h

theorem RI.putX {inp : List (Nat × Value)} {kn kn2 : List (Nat × Nat × Value)} {sz : Nat} {ds : List Deferred} {Wp Wp2 : (Nat → Bool) → World → Prop} {X : Nat → Bool} {a : Act} {w w' : World} (h : RI inp kn sz ds Wp X a w) {k d : Nat} {v : Value} (hd : d < sz)
    (h1 : ∀ p ∈ inp, p.1 ≠ d) (h2 : ∀ p ∈ kn2, (p.1 = k ↔ p.2.1 = d)) (h3 : ∀ p ∈ kn2, p.1 = k → p.2.2 = v) (h4 : ∀ p ∈ kn2, p.1 ≠ k → p ∈ kn) (hw : Wp2 (addX X k) w') : RI inp kn2 sz ds Wp2 (addX X k) (a.put (some d) v) w' where
  size := by unfold Act.put; simpa using h.size
  defers := h.defers
  inp := fun p hp => by rw [put_getD _ _ _ _ (by rw [h.size]; exact hd), if_neg (h1 p hp)]; exact h.inp p hp
  kn := fun p hp hx => by
    rw [put_getD _ _ _ _ (by rw [h.size]; exact hd)]
    by_cases e : p.1 = k
    · rw [if_pos ((h2 p hp).1 e)]; exact (h3 p hp e).symm
    · rw [if_neg (fun e' => e ((h2 p hp).2 e'))]
      rw [addX_ne X e] at hx
      exact h.kn p (h4 p hp e) hx
  wp := hw

theorem RI.gi {inp : List (Nat × Value)} {kn : List (Nat × Nat × Value)} {sz : Nat} {ds : List Deferred} {Wp : (Nat → Bool) → World → Prop} {X : Nat → Bool} {a : Act} {w : World} (h : RI inp kn sz ds Wp X a w) (t : Nat) {v : Value} (hp : inp.lookup t = some v) : a.tmps[t]?.getD undef = v := h.inp _ (mem_of_lookup hp)
theorem RI.gk {inp : List (Nat × Value)} {kn : List (Nat × Nat × Value)} {sz : Nat} {ds : List Deferred} {Wp : (Nat → Bool) → World → Prop} {X : Nat → Bool} {a : Act} {w : World} (h : RI inp kn sz ds Wp X a w) (k : Nat) {d : Nat} {v : Value} (hp : kn.lookup k = some (d, v)) (hX : X k = true) : a.tmps[d]?.getD undef = v := h.kn _ (mem_of_lookup hp) hX
end Go.Proofs.Ytmgiabehooghcaa
namespace Go.Proofs.Ytmgiabehooghcaa
open Go.RowKit Go.Shelf
attribute [local go_sem] Oper.semAt_some

theorem r13_true (F : Fence) (n : Nat) (h25 : F.fn 25) (hn : 1 ≤ n) (l : Nat) (bB lB oB lvB g off cap oR N lev s k v o : Nat) (W : World)
    (c3 : W.cell? ⟨bB, 3, none⟩ = some (.slice (some ⟨g, off, none⟩) N cap))
    (c9 : W.cell? ⟨lvB, 0, none⟩ = some (.int .i64 lev)) (hlev : 1 ≤ lev ∧ lev ≤ 15) (hs : s < N) (hN : N ≤ 262144)
    (hc0 : W.cell? ⟨g, off + s * 2, none⟩ = some (.int .u8 k)) (hc1 : W.cell? ⟨g, off + s * 2 + 1, none⟩ = some (.int .u8 v))
    (c10 : W.cell? ⟨oB, 0, none⟩ = some (.slice (some ⟨oR, 0, none⟩) N N)) (ho : W.cell? ⟨oR, s, none⟩ = some (.int .u8 o)) (hov : o ≤ 15)
    (z1 : oB < W.heap.size) (z2 : oR < W.heap.size) (z3 : lvB < W.heap.size) (z4 : bB < W.heap.size) (z5 : g < W.heap.size)
    (hcl : ∀ W m, CallsIn F m Try.prog 25 #[.agg #[.int .u8 k, .int .u8 v]] W fun e w' => e = .returned (.bool true) ∧ Below W.heap.size W w')
    (Q : Exit → Act → World → Prop) (a : Act) (h0 : RI [(2, .pointer (some ⟨bB, 0, none⟩)), (3, .pointer (some ⟨lB, 0, none⟩)), (5, .pointer (some ⟨oB, 0, none⟩)), (6, .pointer (some ⟨lvB, 0, none⟩)), (9, .int .i64 s)] [] 76 [] (fun _ w => Below W.heap.size W w) (fun _ => false) a W)
    (hQ : ∀ a w, a.tmps[63]?.getD undef = .bool (decide ((o : Int) < (lev : Int) - 1)) → RI [(2, .pointer (some ⟨bB, 0, none⟩)), (3, .pointer (some ⟨lB, 0, none⟩)), (5, .pointer (some ⟨oB, 0, none⟩)), (6, .pointer (some ⟨lvB, 0, none⟩)), (9, .int .i64 s)] [] 76 [] (fun _ w => Below W.heap.size W w) (fun _ => false) a w → Q .normal a w) :
    (regOf 13 (Try.f26.body.getD .skip)).wpIn (F.inRound l) n Try.prog Q a W := by
  have hmix : Try.prog.follows .mixedOrders = true := by kernel_rfl
  have s0 : (0 : Int) ≤ s := by omega
  have s1 : (s : Int) < N := by omega
  have s2 : (N : Int) ≤ 262144 := by omega
  have l0 : (1 : Int) ≤ lev := by omega
  have l1 : (lev : Int) ≤ 15 := by omega
  have o1 : (o : Int) ≤ 15 := by omega
  have o0 : (0 : Int) ≤ o := by omega
  clear hs hN hlev hov
  simp only [regOf, Try.f26, Option.getD, Nat.reduceBEq, Bool.false_eq_true, if_true, if_false]
  refine region_inv (RI [(2, .pointer (some ⟨bB, 0, none⟩)), (3, .pointer (some ⟨lB, 0, none⟩)), (5, .pointer (some ⟨oB, 0, none⟩)), (6, .pointer (some ⟨lvB, 0, none⟩)), (9, .int .i64 s)]
    [(0, 48, .pointer (some ⟨bB, 3, none⟩)), (1, 49, .slice (some ⟨g, off, none⟩) N cap), (2, 50, .int .i64 s), (3, 51, .pointer (some ⟨g, off + s * 2, none⟩)), (4, 52, .agg #[.int .u8 k, .int .u8 v]), (5, 53, .bool true), (6, 54, .bool true), (7, 55, .slice (some ⟨oR, 0, none⟩) N N), (8, 56, .int .i64 s), (9, 57, .pointer (some ⟨oR, s, none⟩)), (10, 58, .int .u8 o), (11, 59, .int .i64 o), (12, 60, .int .i64 lev), (13, 61, .int .i64 ((lev : Int) - 1)), (14, 62, .bool (decide ((o : Int) < (lev : Int) - 1))), (15, 63, .bool (decide ((o : Int) < (lev : Int) - 1)))] 76 [] (fun _ w => Below W.heap.size W w)) hmix (by kernel_rfl) ⟨h0.size, h0.defers, h0.inp, by simp, h0.wp.drew⟩ ⟨?_, ?_, ?_, ?_, ?_, ?_, ?_, ?_, ?_, ?_, ?_, ?_, ?_, ?_, ?_, ?_, trivial⟩ ?_
  · intro X a w hX hdep hC hI; have e2 := hI.gi 2 rfl; go_simp; exact hI.p 0 48 hI.wp (v := .pointer (some ⟨bB, 3, none⟩))
  · intro X a w hX hdep hC hI; have e48 := hI.gk 0 rfl (hdep ⟨0, .data⟩ (by simp) rfl)
    have ccc3 := (hI.wp.cell (p := ⟨bB, 3, none⟩) z4).trans c3
    go_simp; exact hI.p 1 49 hI.wp (v := .slice (some ⟨g, off, none⟩) N cap)
  · intro X a w hX hdep hC hI; have e9 := hI.gi 9 rfl; go_simp; exact hI.p 2 50 hI.wp (v := .int .i64 s)
  · intro X a w hX hdep hC hI; have e49 := hI.gk 1 rfl (hdep ⟨1, .data⟩ (by simp) rfl); have e50 := hI.gk 2 rfl (hdep ⟨2, .data⟩ (by simp) rfl); go_simp; exact hI.p 3 51 hI.wp (v := .pointer (some ⟨g, off + s * 2, none⟩))
  · intro X a w hX hdep hC hI; have e51 := hI.gk 3 rfl (hdep ⟨3, .data⟩ (by simp) rfl)
    have cchc0 := (hI.wp.cell (p := ⟨g, off + s * 2, none⟩) z5).trans hc0
    have cchc1 := (hI.wp.cell (p := ⟨g, off + s * 2 + 1, none⟩) z5).trans hc1
    go_simp; exact hI.p 4 52 hI.wp (v := .agg #[.int .u8 k, .int .u8 v])
  · intro X a w hX hdep hC hI; have e52 := hI.gk 4 rfl (hdep ⟨4, .data⟩ (by simp) rfl)
    unfold Oper.wpIn
    simp only [Region.wanted, if_true]
    go_simp
    refine (CallsIn.inRound l (hcl _ _)).mono ?_
    rintro e w' ⟨rfl, hb⟩
    exact hI.put' (by decide) (by simp) (by simp) (by simp) (hI.wp.trans (hb.mono hI.wp.size))
  · intro X a w hX hdep hC hI; have e53 := hI.gk 5 rfl (hdep ⟨5, .data⟩ (by simp) rfl); go_simp; exact hI.p 6 54 hI.wp (v := .bool true)
  · intro X a w hX hdep hC hI; have e5 := hI.gi 5 rfl; have e54 := hI.gk 6 rfl (hdep ⟨6, .guard⟩ (by simp) rfl); have f54 := slot_bool e54
    have ccc10 := (hI.wp.cell (p := ⟨oB, 0, none⟩) z1).trans c10
    go_simp; exact hI.p 7 55 hI.wp (v := .slice (some ⟨oR, 0, none⟩) N N)
  · intro X a w hX hdep hC hI; have e9 := hI.gi 9 rfl; have e54 := hI.gk 6 rfl (hdep ⟨6, .guard⟩ (by simp) rfl); have f54 := slot_bool e54; go_simp; exact hI.p 8 56 hI.wp (v := .int .i64 s)
  · intro X a w hX hdep hC hI; have e55 := hI.gk 7 rfl (hdep ⟨7, .data⟩ (by simp) rfl); have e56 := hI.gk 8 rfl (hdep ⟨8, .data⟩ (by simp) rfl); have e54 := hI.gk 6 rfl (hdep ⟨6, .guard⟩ (by simp) rfl); have f54 := slot_bool e54; go_simp; exact hI.p 9 57 hI.wp (v := .pointer (some ⟨oR, s, none⟩))
  · intro X a w hX hdep hC hI; have e57 := hI.gk 9 rfl (hdep ⟨9, .data⟩ (by simp) rfl); have e54 := hI.gk 6 rfl (hdep ⟨6, .guard⟩ (by simp) rfl); have f54 := slot_bool e54
    have ccho := (hI.wp.cell (p := ⟨oR, s, none⟩) z2).trans ho
    go_simp; exact hI.p 10 58 hI.wp (v := .int .u8 o)
  · intro X a w hX hdep hC hI; have e58 := hI.gk 10 rfl (hdep ⟨10, .data⟩ (by simp) rfl); have e54 := hI.gk 6 rfl (hdep ⟨6, .guard⟩ (by simp) rfl); have f54 := slot_bool e54
    have w11 : IntKind.i64.wrap (o : Int) = o := wrap_in (by omega) (by omega)
    go_simp; exact hI.p 11 59 hI.wp (v := .int .i64 o)
  · intro X a w hX hdep hC hI; have e6 := hI.gi 6 rfl; have e54 := hI.gk 6 rfl (hdep ⟨6, .guard⟩ (by simp) rfl); have f54 := slot_bool e54
    have ccc9 := (hI.wp.cell (p := ⟨lvB, 0, none⟩) z3).trans c9
    go_simp; exact hI.p 12 60 hI.wp (v := .int .i64 lev)
  · intro X a w hX hdep hC hI; have e60 := hI.gk 12 rfl (hdep ⟨12, .data⟩ (by simp) rfl); have e54 := hI.gk 6 rfl (hdep ⟨6, .guard⟩ (by simp) rfl); have f54 := slot_bool e54
    have w13 : IntKind.i64.wrap ((lev : Int) - 1) = (lev : Int) - 1 := wrap_in (by omega) (by omega)
    go_simp; exact hI.p 13 61 hI.wp (v := .int .i64 ((lev : Int) - 1))
  · intro X a w hX hdep hC hI; have e59 := hI.gk 11 rfl (hdep ⟨11, .data⟩ (by simp) rfl); have e61 := hI.gk 13 rfl (hdep ⟨13, .data⟩ (by simp) rfl); have e54 := hI.gk 6 rfl (hdep ⟨6, .guard⟩ (by simp) rfl); have f54 := slot_bool e54; go_simp; exact hI.p 14 62 hI.wp (v := .bool (decide ((o : Int) < (lev : Int) - 1)))
  · intro X a w hX hdep hC hI; have e54 := hI.gk 6 rfl (hdep ⟨6, .data⟩ (by simp) rfl); have e62 := hI.gk 14 rfl (hdep ⟨14, .data⟩ (by simp) rfl); go_simp; exact hI.p 15 63 hI.wp (v := .bool (decide ((o : Int) < (lev : Int) - 1)))
  · intro X a w hX hI
    exact hQ a w (hI.kn (15, 63, .bool (decide ((o : Int) < (lev : Int) - 1))) (by simp) (hX 15 (by simp))) ⟨hI.size, hI.defers, hI.inp, by simp, hI.wp⟩
theorem r13_false (F : Fence) (n : Nat) (h25 : F.fn 25) (hn : 1 ≤ n) (l : Nat) (bB lB oB lvB g off cap oR N lev s k v o : Nat) (W : World)
    (c3 : W.cell? ⟨bB, 3, none⟩ = some (.slice (some ⟨g, off, none⟩) N cap))
    (c9 : W.cell? ⟨lvB, 0, none⟩ = some (.int .i64 lev)) (hlev : 1 ≤ lev ∧ lev ≤ 15) (hs : s < N) (hN : N ≤ 262144)
    (hc0 : W.cell? ⟨g, off + s * 2, none⟩ = some (.int .u8 k)) (hc1 : W.cell? ⟨g, off + s * 2 + 1, none⟩ = some (.int .u8 v))
    (c10 : W.cell? ⟨oB, 0, none⟩ = some (.slice (some ⟨oR, 0, none⟩) N N)) (ho : W.cell? ⟨oR, s, none⟩ = some (.int .u8 o)) (hov : o ≤ 15)
    (z1 : oB < W.heap.size) (z2 : oR < W.heap.size) (z3 : lvB < W.heap.size) (z4 : bB < W.heap.size) (z5 : g < W.heap.size)
    (hcl : ∀ W m, CallsIn F m Try.prog 25 #[.agg #[.int .u8 k, .int .u8 v]] W fun e w' => e = .returned (.bool false) ∧ Below W.heap.size W w')
    (Q : Exit → Act → World → Prop) (a : Act) (h0 : RI [(2, .pointer (some ⟨bB, 0, none⟩)), (3, .pointer (some ⟨lB, 0, none⟩)), (5, .pointer (some ⟨oB, 0, none⟩)), (6, .pointer (some ⟨lvB, 0, none⟩)), (9, .int .i64 s)] [] 76 [] (fun _ w => Below W.heap.size W w) (fun _ => false) a W)
    (hQ : ∀ a w, a.tmps[63]?.getD undef = .bool (false) → RI [(2, .pointer (some ⟨bB, 0, none⟩)), (3, .pointer (some ⟨lB, 0, none⟩)), (5, .pointer (some ⟨oB, 0, none⟩)), (6, .pointer (some ⟨lvB, 0, none⟩)), (9, .int .i64 s)] [] 76 [] (fun _ w => Below W.heap.size W w) (fun _ => false) a w → Q .normal a w) :
    (regOf 13 (Try.f26.body.getD .skip)).wpIn (F.inRound l) n Try.prog Q a W := by
  have hmix : Try.prog.follows .mixedOrders = true := by kernel_rfl
  have s0 : (0 : Int) ≤ s := by omega
  have s1 : (s : Int) < N := by omega
  have s2 : (N : Int) ≤ 262144 := by omega
  have l0 : (1 : Int) ≤ lev := by omega
  have l1 : (lev : Int) ≤ 15 := by omega
  have o1 : (o : Int) ≤ 15 := by omega
  have o0 : (0 : Int) ≤ o := by omega
  clear hs hN hlev hov
  simp only [regOf, Try.f26, Option.getD, Nat.reduceBEq, Bool.false_eq_true, if_true, if_false]
  refine region_inv (RI [(2, .pointer (some ⟨bB, 0, none⟩)), (3, .pointer (some ⟨lB, 0, none⟩)), (5, .pointer (some ⟨oB, 0, none⟩)), (6, .pointer (some ⟨lvB, 0, none⟩)), (9, .int .i64 s)]
    [(0, 48, .pointer (some ⟨bB, 3, none⟩)), (1, 49, .slice (some ⟨g, off, none⟩) N cap), (2, 50, .int .i64 s), (3, 51, .pointer (some ⟨g, off + s * 2, none⟩)), (4, 52, .agg #[.int .u8 k, .int .u8 v]), (5, 53, .bool false), (6, 54, .bool false), (15, 63, .bool false)] 76 [] (fun _ w => Below W.heap.size W w)) hmix (by kernel_rfl) ⟨h0.size, h0.defers, h0.inp, by simp, h0.wp.drew⟩ ⟨?_, ?_, ?_, ?_, ?_, ?_, ?_, ?_, ?_, ?_, ?_, ?_, ?_, ?_, ?_, ?_, trivial⟩ ?_
  · intro X a w hX hdep hC hI; have e2 := hI.gi 2 rfl; go_simp; exact hI.p 0 48 hI.wp (v := .pointer (some ⟨bB, 3, none⟩))
  · intro X a w hX hdep hC hI; have e48 := hI.gk 0 rfl (hdep ⟨0, .data⟩ (by simp) rfl)
    have ccc3 := (hI.wp.cell (p := ⟨bB, 3, none⟩) z4).trans c3
    go_simp; exact hI.p 1 49 hI.wp (v := .slice (some ⟨g, off, none⟩) N cap)
  · intro X a w hX hdep hC hI; have e9 := hI.gi 9 rfl; go_simp; exact hI.p 2 50 hI.wp (v := .int .i64 s)
  · intro X a w hX hdep hC hI; have e49 := hI.gk 1 rfl (hdep ⟨1, .data⟩ (by simp) rfl); have e50 := hI.gk 2 rfl (hdep ⟨2, .data⟩ (by simp) rfl); go_simp; exact hI.p 3 51 hI.wp (v := .pointer (some ⟨g, off + s * 2, none⟩))
  · intro X a w hX hdep hC hI; have e51 := hI.gk 3 rfl (hdep ⟨3, .data⟩ (by simp) rfl)
    have cchc0 := (hI.wp.cell (p := ⟨g, off + s * 2, none⟩) z5).trans hc0
    have cchc1 := (hI.wp.cell (p := ⟨g, off + s * 2 + 1, none⟩) z5).trans hc1
    go_simp; exact hI.p 4 52 hI.wp (v := .agg #[.int .u8 k, .int .u8 v])
  · intro X a w hX hdep hC hI; have e52 := hI.gk 4 rfl (hdep ⟨4, .data⟩ (by simp) rfl)
    unfold Oper.wpIn
    simp only [Region.wanted, if_true]
    go_simp
    refine (CallsIn.inRound l (hcl _ _)).mono ?_
    rintro e w' ⟨rfl, hb⟩
    exact hI.put' (by decide) (by simp) (by simp) (by simp) (hI.wp.trans (hb.mono hI.wp.size))
  · intro X a w hX hdep hC hI; have e53 := hI.gk 5 rfl (hdep ⟨5, .data⟩ (by simp) rfl); go_simp; exact hI.p 6 54 hI.wp (v := .bool false)
  · intro X a w hX hdep hC hI; have e5 := hI.gi 5 rfl; have e54 := hI.gk 6 rfl (hdep ⟨6, .guard⟩ (by simp) rfl); have f54 := slot_bool e54
    have ccc10 := (hI.wp.cell (p := ⟨oB, 0, none⟩) z1).trans c10
    go_simp; exact hI.p 7 55 hI.wp
  · intro X a w hX hdep hC hI; have e9 := hI.gi 9 rfl; have e54 := hI.gk 6 rfl (hdep ⟨6, .guard⟩ (by simp) rfl); have f54 := slot_bool e54; go_simp; exact hI.p 8 56 hI.wp
  · intro X a w hX hdep hC hI; have e54 := hI.gk 6 rfl (hdep ⟨6, .guard⟩ (by simp) rfl); have f54 := slot_bool e54; go_simp; exact hI.p 9 57 hI.wp
  · intro X a w hX hdep hC hI; have e54 := hI.gk 6 rfl (hdep ⟨6, .guard⟩ (by simp) rfl); have f54 := slot_bool e54
    have ccho := (hI.wp.cell (p := ⟨oR, s, none⟩) z2).trans ho
    go_simp; exact hI.p 10 58 hI.wp
  · intro X a w hX hdep hC hI; have e54 := hI.gk 6 rfl (hdep ⟨6, .guard⟩ (by simp) rfl); have f54 := slot_bool e54
    have w11 : IntKind.i64.wrap (o : Int) = o := wrap_in (by omega) (by omega)
    go_simp; exact hI.p 11 59 hI.wp
  · intro X a w hX hdep hC hI; have e6 := hI.gi 6 rfl; have e54 := hI.gk 6 rfl (hdep ⟨6, .guard⟩ (by simp) rfl); have f54 := slot_bool e54
    have ccc9 := (hI.wp.cell (p := ⟨lvB, 0, none⟩) z3).trans c9
    go_simp; exact hI.p 12 60 hI.wp
  · intro X a w hX hdep hC hI; have e54 := hI.gk 6 rfl (hdep ⟨6, .guard⟩ (by simp) rfl); have f54 := slot_bool e54
    have w13 : IntKind.i64.wrap ((lev : Int) - 1) = (lev : Int) - 1 := wrap_in (by omega) (by omega)
    go_simp; exact hI.p 13 61 hI.wp
  · intro X a w hX hdep hC hI; have e54 := hI.gk 6 rfl (hdep ⟨6, .guard⟩ (by simp) rfl); have f54 := slot_bool e54; go_simp; exact hI.p 14 62 hI.wp
  · intro X a w hX hdep hC hI; have e54 := hI.gk 6 rfl (hdep ⟨6, .data⟩ (by simp) rfl); go_simp; exact hI.p 15 63 hI.wp (v := .bool false)
  · intro X a w hX hI
    exact hQ a w (hI.kn (15, 63, .bool (false)) (by simp) (hX 15 (by simp))) ⟨hI.size, hI.defers, hI.inp, by simp, hI.wp⟩
end Go.Proofs.Ytmgiabehooghcaa
namespace Go.Proofs.Ytmgiabehooghcaa
open Go.RowKit Go.Shelf
attribute [local go_sem] Oper.semAt_some

def upd {α : Type} (f : Nat → α) (m : Nat) (v : α) : Nat → α := fun k => if k = m then v else f k
@[simp] theorem upd_same {α : Type} (f : Nat → α) (m : Nat) (v : α) : upd f m v m = v := by simp [upd]
theorem upd_ne {α : Type} (f : Nat → α) {m k : Nat} (v : α) (h : k ≠ m) : upd f m v k = f k := by simp [upd, h]
def intsV (l : List Nat) : List Value := l.map fun s => .int .i64 (s : Nat)
structure Lists (W : World) (lB : Nat) (vs : Nat → Value) (Ls : Nat → List Nat) : Prop where
  blk : ∃ cur : Array Value, W.heap[lB]? = some (.cells cur 53 (0, 0)) ∧ cur.size = 16 ∧ ∀ m, m < 16 → cur[m]? = some (vs m)
  rows : ∀ m, m < 16 → W.ownsRow 0 3 1 (vs m) (Ls m).length (intsV (Ls m))
  apart : ∀ m m', m < 16 → m' < 16 → m ≠ m' → ∀ g, (vs m).ownBlock = some g → (vs m').ownBlock ≠ some g
theorem ownsRow_blk {W : World} {e size n : Nat} {v : Value} {xs : List Value} {g : Nat} (h : W.ownsRow 0 e size v n xs) (hg : v.ownBlock = some g) : ∃ cur, W.heap[g]? = some (.cells cur e (0, 0)) := by
  rcases h.2 with ⟨rfl, _⟩ | ⟨g', cap, cur, rfl, _, h1, _⟩
  · simp [Value.ownBlock] at hg
  · obtain rfl : g' = g := by simpa [Value.ownBlock] using hg
    exact ⟨cur, h1⟩
theorem ownsRow_same {W W' : World} {e size n : Nat} {v : Value} {xs : List Value} (h : W.ownsRow 0 e size v n xs) (hg : ∀ g, v.ownBlock = some g → W'.heap[g]? = W.heap[g]?) : W'.ownsRow 0 e size v n xs := by
  refine ⟨h.1, ?_⟩
  rcases h.2 with h' | ⟨g, cap, cur, rfl, h0, h1, h2⟩
  · exact .inl h'
  · exact .inr ⟨g, cap, cur, rfl, h0, (hg g rfl).trans h1, h2⟩
theorem Lists.lt {W : World} {lB : Nat} {vs : Nat → Value} {Ls : Nat → List Nat} (h : Lists W lB vs Ls) : lB < W.heap.size := by
  obtain ⟨cur, h1, _⟩ := h.blk
  exact (Array.getElem?_eq_some_iff.1 h1).1
theorem Lists.cell {W : World} {lB : Nat} {vs : Nat → Value} {Ls : Nat → List Nat} (h : Lists W lB vs Ls) {m : Nat} (hm : m < 16) : W.cell? ⟨lB, m, none⟩ = some (vs m) := by
  obtain ⟨cur, h1, _, h2⟩ := h.blk
  simp [World.cell?, h1, h2 m hm]
theorem Lists.frozen {W : World} {lB : Nat} {vs : Nat → Value} {Ls : Nat → List Nat} (h : Lists W lB vs Ls) (m : Nat) : W.frozen? ⟨lB, m, none⟩ = false := by
  obtain ⟨cur, h1, _, h2⟩ := h.blk
  simp [World.frozen?, h1]
theorem Lists.own_lt {W : World} {lB : Nat} {vs : Nat → Value} {Ls : Nat → List Nat} (h : Lists W lB vs Ls) {m g : Nat} (hm : m < 16) (hg : (vs m).ownBlock = some g) : g < W.heap.size := by
  obtain ⟨cur, h1⟩ := ownsRow_blk (h.rows m hm) hg
  exact (Array.getElem?_eq_some_iff.1 h1).1
theorem Lists.own_ne {W : World} {lB : Nat} {vs : Nat → Value} {Ls : Nat → List Nat} (h : Lists W lB vs Ls) {m g : Nat} (hm : m < 16) (hg : (vs m).ownBlock = some g) : g ≠ lB := by
  obtain ⟨cur, h1⟩ := ownsRow_blk (h.rows m hm) hg
  obtain ⟨cur', h2, _⟩ := h.blk
  rintro rfl
  rw [h1] at h2; simp at h2
theorem Lists.iff_foot {W : World} {lB : Nat} {vs : Nat → Value} {Ls : Nat → List Nat} (h : Lists W lB vs Ls) (k : Nat) : foot lB W k ↔ k = lB ∨ ∃ m, m < 16 ∧ (vs m).ownBlock = some k := by
  constructor
  · rintro (h1 | ⟨m, v, h1, h2⟩)
    · exact .inl h1
    · right
      obtain ⟨cur, h3, h4, h5⟩ := h.blk
      have hm : m < 16 := by
        rcases Nat.lt_or_ge m 16 with hm | hm
        · exact hm
        · simp [World.cell?, h3, show ¬ m < cur.size from by omega] at h1
      rw [h.cell hm] at h1
      cases h1
      exact ⟨m, hm, h2⟩
  · rintro (h1 | ⟨m, hm, h1⟩)
    · exact .inl h1
    · exact .inr ⟨m, _, h.cell hm, h1⟩
theorem Lists.lt_foot {W : World} {lB : Nat} {vs : Nat → Value} {Ls : Nat → List Nat} (h : Lists W lB vs Ls) (k : Nat) (hk : foot lB W k) : k < W.heap.size := by
  rcases (h.iff_foot k).1 hk with rfl | ⟨m, hm, h1⟩
  · exact h.lt
  · exact h.own_lt hm h1
theorem Lists.same {W W' : World} {lB : Nat} {vs : Nat → Value} {Ls : Nat → List Nat} (h : Lists W lB vs Ls) (h1 : W'.heap[lB]? = W.heap[lB]?) (h2 : ∀ m, m < 16 → ∀ g, (vs m).ownBlock = some g → W'.heap[g]? = W.heap[g]?) : Lists W' lB vs Ls where
  blk := by obtain ⟨cur, h3, h4⟩ := h.blk; exact ⟨cur, h1.trans h3, h4⟩
  rows := fun m hm => ownsRow_same (h.rows m hm) (h2 m hm)
  apart := h.apart
theorem setCell_heap_same {W : World} {b m : Nat} {cur : Array Value} {t : TypeId} (h : W.heap[b]? = some (.cells cur t (0, 0))) (v : Value) : (W.setCell ⟨b, m, none⟩ v).heap[b]? = some (.cells (cur.setIfInBounds m v) t (0, 0)) := by
  obtain ⟨hlt, hk⟩ := Array.getElem?_eq_some_iff.1 h
  show (W.heap.modify b _)[b]? = _
  rw [Array.getElem?_eq_getElem (by rw [Array.size_modify]; exact hlt), Array.getElem_modify_self, hk]
  rfl
structure Appended (W : World) (V : Value) (n : Nat) (xs : List Value) (tmp : Obj) (s : Value) (V' : Value) (w1 : World) : Prop where
  own : w1.ownsRow 0 3 1 V' (n + 1) (xs ++ [s])
  grow : (W.drew.alloc tmp).grownBy w1 V.ownBlock
  at_ : V'.ownBlock = V.ownBlock ∨ V'.ownBlock = some (W.heap.size + 1)
theorem Appended.heap {W : World} {V : Value} {n : Nat} {xs : List Value} {tmp : Obj} {s V' : Value} {w1 : World} (h : Appended W V n xs tmp s V' w1) {k : Nat} (hk : k < W.heap.size) (hne : V.ownBlock ≠ some k) : w1.heap[k]? = W.heap[k]? :=
  (h.grow.block k (by simp; exact Nat.lt_succ_of_lt hk) (Ne.symm hne)).trans (Below.heap_alloc W.drew tmp k hk)
theorem Lists.appended {W w1 : World} {lB m : Nat} {vs : Nat → Value} {Ls : Nat → List Nat} {tmp : Obj} {s : Nat} {V' : Value} (h : Lists W lB vs Ls) (hm : m < 16) (ha : Appended W (vs m) (Ls m).length (intsV (Ls m)) tmp (.int .i64 s) V' w1) :
    Lists (w1.setCell ⟨lB, m, none⟩ V') lB (upd vs m V') (upd Ls m (Ls m ++ [s])) ∧
    (∀ k, k < W.heap.size → k ≠ lB → (vs m).ownBlock ≠ some k → (w1.setCell ⟨lB, m, none⟩ V').heap[k]? = W.heap[k]?) ∧ W.heap.size ≤ (w1.setCell ⟨lB, m, none⟩ V').heap.size := by
  have hne : (vs m).ownBlock ≠ some lB := fun e => h.own_ne hm e rfl
  have hsz : W.heap.size ≤ w1.heap.size := by have := ha.grow.size; simp at this; omega
  have hk : ∀ k, k < W.heap.size → k ≠ lB → (vs m).ownBlock ≠ some k → (w1.setCell ⟨lB, m, none⟩ V').heap[k]? = W.heap[k]? := fun k h1 h2 h3 =>
    (Below.heap_setCell _ _ _ k h2).trans (ha.heap h1 h3)
  have hV' : ∀ g, V'.ownBlock = some g → g ≠ lB := fun g hg e => by
    subst e
    rcases ha.at_ with h1 | h1
    · exact hne (h1.symm.trans hg)
    · rw [h1] at hg; have := h.lt; simp at hg; omega
  refine ⟨⟨?_, fun j hj => ?_, fun j j' hj hj' hjj g hg => ?_⟩, hk, by show _ ≤ (w1.heap.modify _ _).size; rw [Array.size_modify]; exact hsz⟩
  · obtain ⟨cur, h1, h2, h3⟩ := h.blk
    refine ⟨cur.setIfInBounds m V', setCell_heap_same ((ha.heap h.lt hne).trans h1) V', by simp [h2], fun j hj => ?_⟩
    by_cases e : j = m
    · subst e; simp [h2, hj]
    · rw [upd_ne _ _ e]; simp [Ne.symm e, h3 j hj]
  · by_cases e : j = m
    · subst e
      rw [upd_same, upd_same]
      have := ownsRow_same (W' := w1.setCell ⟨lB, j, none⟩ V') ha.own (fun g hg => Below.heap_setCell _ _ _ g (hV' g hg))
      simpa [intsV] using this
    · rw [upd_ne _ _ e, upd_ne _ _ e]
      exact ownsRow_same (h.rows j hj) fun g hg => hk g (h.own_lt hj hg) (h.own_ne hj hg) (fun e' => h.apart j m hj hm e g hg e')
  · by_cases e : j = m
    · subst e
      rw [upd_same] at hg
      rw [upd_ne _ _ (Ne.symm hjj)]
      rcases ha.at_ with h1 | h1
      · exact h.apart j j' hj hj' hjj g (h1.symm.trans hg)
      · rw [h1] at hg
        intro e'
        have := h.own_lt hj' e'
        simp at hg; omega
    · rw [upd_ne _ _ e] at hg
      by_cases e' : j' = m
      · subst e'
        rw [upd_same]
        rcases ha.at_ with h1 | h1
        · rw [h1]; exact h.apart j j' hj hj' hjj g hg
        · rw [h1]; have := h.own_lt hj hg; simp; omega
      · rw [upd_ne _ _ e']; exact h.apart j j' hj hj' hjj g hg
theorem frozen_of_heap {W W' : World} {b : Nat} (h : W'.heap[b]? = W.heap[b]?) (m : Nat) : W'.frozen? ⟨b, m, none⟩ = W.frozen? ⟨b, m, none⟩ := by
  unfold World.frozen?; rw [h]
end Go.Proofs.Ytmgiabehooghcaa
namespace Go.Proofs.Ytmgiabehooghcaa
open Go.RowKit Go.Shelf
attribute [local go_sem] Oper.semAt_some

theorem operIn_append {F : Fence} {nF : Nat} {P : Program} {w : World} {K : Act → World → Prop} {o : Oper} {a : Act} {Q : Exit → Act → World → Prop} (s x : Operand) (t : TypeId)
    (ho : o.op = .call { callee := .builtin .append, args := #[s, x], argTypes := #[t, t] })
    (base : Nat) (e : TypeId) (i : TypeInfo) (z : Value) (size bytes : Nat) (ht : P.underlying t = some (.slice e)) (hi : P.info? e = some i) (hz : i.zero = some z)
    (hsize : i.size = size) (hby : i.bytes = bytes) (hzs : z.cells.size = size) (hsz : 0 < size)
    (v : Value) (n : Nat) (xs : List Value) (hs : a.eval s = v) (hown : w.ownsRow base e size v n xs)
    (ad : Addr) (m c : Nat) (news : List Value) (hx : a.eval x = .slice (some ad) m c) (hl : news.length = m * size) (hnews : ∀ j u, news[j]? = some u → w.cell? (ad.add j) = some u) (h1 : ∀ u ∈ news, u.oneCell' = true)
    (h63 : n + m ≤ maxLen) (hbytes : (n + m) * bytes ≤ 140737488355328) (hbase : base ≤ w.heap.size)
    (h : ∀ v' w', w'.ownsRow base e size v' (n + m) (xs ++ news) → w.grownBy w' v.ownBlock → (v'.ownBlock = v.ownBlock ∨ v'.ownBlock = some w.heap.size) → K (a.put o.dst v') w') :
    o.wpIn F nF P a w K Q := by
  obtain ⟨v', w', hr, h2, h3, h4, h5⟩ := run_append_own_at (P := P) w base t o.type e i z size bytes ht hi hz hsize hby hzs hsz v n xs hown ad m c news hl hnews h1 h63 hbytes hbase
  unfold Oper.wpIn
  refine ⟨by simp [Oper.about, ho, resolve, Target.leads, Sem.run_pure], ?_⟩
  rw [Oper.semAt_plain F _ _ (by rw [ho]; intro c hc'; cases hc')]
  simp [execOp, ho, resolve, invoke, builtin, hs, hx, hr, Result.andThen]
  exact h v' w' h2 h3 h5
theorem info3 : (Try.prog.info? 3).map (fun i => (i.zero, i.size, i.bytes)) = some (some (.int .i64 0), 1, 8) := by kernel_rfl
theorem under40 : Try.prog.underlying 40 = some (.slice 3) := by kernel_rfl
inductive SomeV (I : Value → (Nat → Bool) → Act → World → Prop) (X : Nat → Bool) (a : Act) (w : World) : Prop
  | mk (v : Value) (h : I v X a w) : SomeV I X a w
structure W14 (W : World) (V : Value) (n : Nat) (xs : List Value) (s : Value) (lB m lvB lev : Nat) (V' : Value) (b7 b8 b10 : Bool) (w : World) : Prop where
  lv : w.cell? ⟨lvB, 0, none⟩ = some (.int .i64 lev)
  cell : b10 = false → w.cell? ⟨lB, m, none⟩ = some V
  frozen : b10 = false → w.frozen? ⟨lB, m, none⟩ = false
  a0 : b8 = false → b7 = false → w = W.drew
  a1 : b8 = false → b7 = true → w = W.drew.alloc (.cells #[s] 3)
  a2 : b8 = true → b10 = false → Appended W V n xs (.cells #[s] 3) s V' w
  a3 : b10 = true → ∃ w1, Appended W V n xs (.cells #[s] 3) s V' w1 ∧ w = w1.setCell ⟨lB, m, none⟩ V'
theorem r14 (F : Fence) (n l : Nat) (bB lB oB lvB lev s : Nat) (vs : Nat → Value) (Ls : Nat → List Nat) (W : World) (hls : Lists W lB vs Ls) (hlv : Boxed W lvB 3 (.int .i64 lev)) (hlev : 1 ≤ lev ∧ lev ≤ 15)
    (hne : ∀ m, m < 16 → (vs m).ownBlock ≠ some lvB) (hlen : (Ls (lev - 1)).length < 17592186044415)
    (Q : Exit → Act → World → Prop) (a : Act) (h0 : RI [(2, .pointer (some ⟨bB, 0, none⟩)), (3, .pointer (some ⟨lB, 0, none⟩)), (5, .pointer (some ⟨oB, 0, none⟩)), (6, .pointer (some ⟨lvB, 0, none⟩)), (9, .int .i64 s)] [] 76 [] (fun _ _ => True) (fun _ => false) a W)
    (hQ : ∀ a w1 V', Appended W (vs (lev - 1)) (Ls (lev - 1)).length (intsV (Ls (lev - 1))) (.cells #[.int .i64 s] 3) (.int .i64 s) V' w1 → Q .normal a (w1.setCell ⟨lB, lev - 1, none⟩ V')) :
    (regOf 14 (Try.f26.body.getD .skip)).wpIn (F.inRound l) n Try.prog Q a W := by
  have hmix : Try.prog.follows .mixedOrders = true := by kernel_rfl
  obtain ⟨i0, hi, hz0, hz1, hz2⟩ := info_parts info3
  have l0 : (1 : Int) ≤ lev := by omega
  have l1 : (lev : Int) ≤ 15 := by omega
  have hm : lev - 1 < 16 := by omega
  have hcell := hls.cell hm
  have hfrz := hls.frozen (lev - 1)
  have hlvc := hlv.cell
  have hlvl := hlv.lt
  have hll := hls.lt
  have hnb : (vs (lev - 1)).ownBlock ≠ some lB := fun e => hls.own_ne hm e rfl
  have hap : ∀ V' w1, Appended W (vs (lev - 1)) (Ls (lev - 1)).length (intsV (Ls (lev - 1))) (.cells #[.int .i64 s] 3) (.int .i64 s) V' w1 →
      w1.cell? ⟨lvB, 0, none⟩ = some (.int .i64 lev) ∧ w1.cell? ⟨lB, lev - 1, none⟩ = some (vs (lev - 1)) ∧ w1.frozen? ⟨lB, lev - 1, none⟩ = false := fun V' w1 h =>
    ⟨(cell_of_heap (h.heap hlvl (hne _ hm)) _).trans hlvc, (cell_of_heap (h.heap hll hnb) _).trans hcell, by
      have := h.heap hll hnb
      unfold World.frozen? at hfrz ⊢
      rw [this]; exact hfrz⟩
  clear hlev
  simp only [regOf, Try.f26, Option.getD, Nat.reduceBEq, Bool.false_eq_true, if_true, if_false]
  refine region_inv (SomeV fun V' => RI [(2, .pointer (some ⟨bB, 0, none⟩)), (3, .pointer (some ⟨lB, 0, none⟩)), (5, .pointer (some ⟨oB, 0, none⟩)), (6, .pointer (some ⟨lvB, 0, none⟩)), (9, .int .i64 s)]
    [(0, 64, .int .i64 lev), (1, 65, .int .i64 ((lev : Int) - 1)), (2, 66, .int .i64 lev), (3, 67, .int .i64 ((lev : Int) - 1)), (4, 68, .pointer (some ⟨lB, lev - 1, none⟩)), (5, 69, vs (lev - 1)), (6, 70, .int .i64 s), (7, 71, .slice (some ⟨W.heap.size, 0, none⟩) 1 1), (8, 72, V'), (9, 73, .pointer (some ⟨lB, lev - 1, none⟩))] 76 [] (fun X w => W14 W (vs (lev - 1)) (Ls (lev - 1)).length (intsV (Ls (lev - 1))) (.int .i64 s) lB (lev - 1) lvB lev V' (X 7) (X 8) (X 10) w)) hmix (by kernel_rfl) ⟨undef, h0.size, h0.defers, h0.inp, by simp, ⟨hlvc, fun _ => hcell, fun _ => hfrz, fun _ _ => rfl, fun _ h => by simp at h, fun h => by simp at h, fun h => by simp at h⟩⟩ ⟨?_, ?_, ?_, ?_, ?_, ?_, ?_, ?_, ?_, ?_, ?_, trivial⟩ ?_
  · intro X a w hX hdep hC hJ
    obtain ⟨V', hI⟩ := hJ
    have e6 := hI.gi 6 rfl
    have cc := hI.wp.lv
    go_simp
    exact ⟨V', hI.put' (k := 0) (d := 64) (v := .int .i64 lev) (by decide) (by simp) (by simp) (by simp) (by simpa [addX] using hI.wp)⟩
  · intro X a w hX hdep hC hJ
    obtain ⟨V', hI⟩ := hJ
    have e64 := hI.gk 0 rfl (hdep ⟨0, .data⟩ (by simp) rfl)
    have w13 : IntKind.i64.wrap ((lev : Int) - 1) = (lev : Int) - 1 := wrap_in (by omega) (by omega)
    go_simp
    exact ⟨V', hI.put' (k := 1) (d := 65) (v := .int .i64 ((lev : Int) - 1)) (by decide) (by simp) (by simp) (by simp) (by simpa [addX] using hI.wp)⟩
  · intro X a w hX hdep hC hJ
    obtain ⟨V', hI⟩ := hJ
    have e6 := hI.gi 6 rfl
    have cc := hI.wp.lv
    go_simp
    exact ⟨V', hI.put' (k := 2) (d := 66) (v := .int .i64 lev) (by decide) (by simp) (by simp) (by simp) (by simpa [addX] using hI.wp)⟩
  · intro X a w hX hdep hC hJ
    obtain ⟨V', hI⟩ := hJ
    have e66 := hI.gk 2 rfl (hdep ⟨2, .data⟩ (by simp) rfl)
    have w13 : IntKind.i64.wrap ((lev : Int) - 1) = (lev : Int) - 1 := wrap_in (by omega) (by omega)
    go_simp
    exact ⟨V', hI.put' (k := 3) (d := 67) (v := .int .i64 ((lev : Int) - 1)) (by decide) (by simp) (by simp) (by simp) (by simpa [addX] using hI.wp)⟩
  · intro X a w hX hdep hC hJ
    obtain ⟨V', hI⟩ := hJ
    have e3 := hI.gi 3 rfl; have e67 := hI.gk 3 rfl (hdep ⟨3, .data⟩ (by simp) rfl)
    have q1 : (0 : Int) ≤ (lev : Int) - 1 := by omega
    have q2 : (lev : Int) - 1 < 16 := by omega
    have q3 : ((lev : Int) - 1).toNat = lev - 1 := by omega
    go_simp
    exact ⟨V', hI.put' (k := 4) (d := 68) (v := .pointer (some ⟨lB, lev - 1, none⟩)) (by decide) (by simp) (by simp) (by simp) (by simpa [addX] using hI.wp)⟩
  · intro X a w hX hdep hC hJ
    obtain ⟨V', hI⟩ := hJ
    have e68 := hI.gk 4 rfl (hdep ⟨4, .data⟩ (by simp) rfl)
    have x10 : X 10 = false := by
      cases h : X 10 with
      | false => rfl
      | true => have := hC 10 _ rfl h ⟨5, .phase⟩ (by simp) rfl; rw [hX] at this; cases this
    have cc := hI.wp.cell x10
    go_simp
    exact ⟨V', hI.put' (k := 5) (d := 69) (v := vs (lev - 1)) (by decide) (by simp) (by simp) (by simp) (by simpa [addX] using hI.wp)⟩
  · intro X a w hX hdep hC hJ
    obtain ⟨V', hI⟩ := hJ
    have e9 := hI.gi 9 rfl; go_simp
    exact ⟨V', hI.put' (k := 6) (d := 70) (v := .int .i64 s) (by decide) (by simp) (by simp) (by simp) (by simpa [addX] using hI.wp)⟩
  · intro X a w hX hdep hC hJ
    obtain ⟨V', hI⟩ := hJ
    have e70 := hI.gk 6 rfl (hdep ⟨6, .data⟩ (by simp) rfl)
    have x8 : X 8 = false := by
      cases h : X 8 with
      | false => rfl
      | true => have := hC 8 _ rfl h ⟨7, .data⟩ (by simp) rfl; rw [hX] at this; cases this
    have hw := hI.wp.a0 x8 hX
    subst hw
    go_simp
    have e7 : addX X 7 7 = true := by simp
    have e8 : addX X 7 8 = false := by simp [addX, x8]
    have x10 : X 10 = false := by
      cases h : X 10 with
      | false => rfl
      | true => have := hC 10 _ rfl h ⟨8, .data⟩ (by simp) rfl; rw [x8] at this; cases this
    have e10 : addX X 7 10 = false := by simp [addX, x10]
    refine ⟨V', hI.put' (k := 7) (d := 71) (v := .slice (some ⟨W.heap.size, 0, none⟩) 1 1) (by decide) (by simp) (by simp) (by simp) ?_⟩
    show W14 _ _ _ _ _ _ _ _ _ _ (addX X 7 7) (addX X 7 8) (addX X 7 10) _
    rw [e7, e8, e10]
    have k1 := Below.heap_alloc W.drew (.cells #[.int .i64 s] 3) lvB hlvl
    have k2 := Below.heap_alloc W.drew (.cells #[.int .i64 s] 3) lB hll
    exact ⟨(cell_of_heap (W := W) k1 _).trans hlvc, fun _ => (cell_of_heap (W := W) k2 _).trans hcell, fun _ => (frozen_of_heap (W := W) k2 _).trans hfrz, fun _ h => (by cases h), fun _ _ => rfl, fun h => (by cases h), fun h => (by cases h)⟩

  · intro X a w hX hdep hC hJ
    obtain ⟨V', hI⟩ := hJ
    have x7 : X 7 = true := hdep ⟨7, .data⟩ (by simp) rfl
    have e69 := hI.gk 5 rfl (hdep ⟨5, .data⟩ (by simp) rfl); have e71 := hI.gk 7 rfl x7
    rw [if_pos (by simp [Region.wanted])]
    have hw := hI.wp.a1 hX x7
    subst hw
    refine operIn_append (.tmp 69) (.tmp 71) 40 rfl 0 3 i0 (.int .i64 0) 1 8 under40 hi hz0 hz1 hz2 rfl (by decide) (vs (lev - 1)) (Ls (lev - 1)).length (intsV (Ls (lev - 1))) (by simpa [go_sem] using e69) (ownsRow_same (hls.rows _ hm) fun g hg => Below.heap_alloc W.drew _ g (hls.own_lt hm hg)) ⟨W.heap.size, 0, none⟩ 1 1 [.int .i64 s] (by simpa [go_sem] using e71) rfl (cell_one_new _ _ _) (by simp [Value.oneCell']) (by unfold maxLen; omega) (by omega) (Nat.zero_le _) ?_
    intro V2 w1 h1 h2 h3
    have hA : Appended W (vs (lev - 1)) (Ls (lev - 1)).length (intsV (Ls (lev - 1))) (.cells #[.int .i64 s] 3) (.int .i64 s) V2 w1 := ⟨h1, h2, by simpa using h3⟩
    obtain ⟨q1, q2, q3⟩ := hap _ _ hA
    have x10 : X 10 = false := by
      cases h : X 10 with
      | false => rfl
      | true => have := hC 10 _ rfl h ⟨8, .data⟩ (by simp) rfl; rw [hX] at this; cases this
    refine ⟨V2, ?_⟩
    refine RI.putX hI (k := 8) (d := 72) (by decide) (by simp) (by simp) (by simp) (by simp) ?_
    have e7 : addX X 8 7 = true := by simp [addX, x7]
    have e10 : addX X 8 10 = false := by simp [addX, x10]
    have e8 : addX X 8 8 = true := by simp
    show W14 _ _ _ _ _ _ _ _ _ _ (addX X 8 7) (addX X 8 8) (addX X 8 10) w1
    rw [e7, e8, e10]
    exact ⟨q1, fun _ => q2, fun _ => q3, fun h => (by cases h), fun h => (by cases h), fun _ _ => hA, fun h => (by cases h)⟩


  · intro X a w hX hdep hC hJ
    obtain ⟨V', hI⟩ := hJ
    have e3 := hI.gi 3 rfl; have e65 := hI.gk 1 rfl (hdep ⟨1, .data⟩ (by simp) rfl)
    have q1 : (0 : Int) ≤ (lev : Int) - 1 := by omega
    have q2 : (lev : Int) - 1 < 16 := by omega
    have q3 : ((lev : Int) - 1).toNat = lev - 1 := by omega
    go_simp
    exact ⟨V', hI.put' (k := 9) (d := 73) (v := .pointer (some ⟨lB, lev - 1, none⟩)) (by decide) (by simp) (by simp) (by simp) (by simpa [addX] using hI.wp)⟩
  · intro X a w hX hdep hC hJ
    obtain ⟨V', hI⟩ := hJ
    have x8 : X 8 = true := hdep ⟨8, .data⟩ (by simp) rfl
    have e73 := hI.gk 9 rfl (hdep ⟨9, .data⟩ (by simp) rfl); have e72 := hI.gk 8 rfl x8
    have k1 := hI.wp.cell hX
    have k2 := hI.wp.frozen hX
    have k3 := hI.wp.lv
    have k4 := hI.wp.a2 x8 hX
    obtain ⟨gg, cc, rfl⟩ := ownsRow_succ k4.own
    go_simp
    refine ⟨_, hI.put_none' (k := 10) (by simp) ?_⟩
    have e10 : addX X 10 10 = true := by simp
    have e8 : addX X 10 8 = true := by simp [addX, x8]
    show W14 _ _ _ _ _ _ _ _ _ _ (addX X 10 7) (addX X 10 8) (addX X 10 10) _
    rw [e10, e8]
    have hlb : lvB ≠ lB := fun e => by
      have h1 : W.heap[lvB]? = _ := hlv
      obtain ⟨cur, h2, _⟩ := hls.blk
      rw [e, h2] at h1; simp at h1
    exact ⟨(cell_of_heap (Below.heap_setCell _ _ _ lvB hlb) _).trans k3, fun h => (by cases h), fun h => (by cases h), fun h => (by cases h), fun h => (by cases h), fun _ h => (by cases h), fun _ => ⟨w, k4, rfl⟩⟩

  · intro X a w hX hJ
    obtain ⟨V', hI⟩ := hJ
    obtain ⟨w1, h1, rfl⟩ := hI.wp.a3 (hX 10 (by simp))
    exact hQ a w1 V' h1
end Go.Proofs.Ytmgiabehooghcaa
namespace Go.Proofs.Ytmgiabehooghcaa
open Go.RowKit Go.Shelf
attribute [local go_sem] Oper.semAt_some

def bytesV (l : List Nat) : List Value := l.map fun v => .int .u8 (v : Nat)
structure Sp (w0 : World) (Dm : Nat → Prop) (bB lB oB oR lvB : Nat) (X Y Z : Int) (N g off cap : Nat) (dl : List Nat) (lev : Nat) (out : List Nat) (vs : Nat → Value) (Ls : Nat → List Nat) (W : World) : Prop where
  os : W.os = w0.os
  tape : W.tape = w0.tape
  output : W.output = w0.output
  size : w0.heap.size ≤ W.heap.size
  old : ∀ k, k < w0.heap.size → ¬ Dm k → W.heap[k]? = w0.heap[k]?
  bx : W.heap[bB]? = some (.cells #[.int .i64 X, .int .i64 Y, .int .i64 Z, .slice (some ⟨g, off, none⟩) N cap] 24 (0, 0))
  ob : Boxed W oB 54 (.slice (some ⟨oR, 0, none⟩) N N)
  orow : W.heap[oR]? = some (.cells (bytesV out).toArray 5 (0, 0))
  lv : Boxed W lvB 3 (.int .i64 lev)
  ls : Lists W lB vs Ls
  dm : ∀ m, m < 16 → ∀ k, (vs m).ownBlock = some k → Dm k ∨ w0.heap.size ≤ k
  nlv : ∀ m, m < 16 → (vs m).ownBlock ≠ some lvB
  nb : w0.heap.size ≤ bB
  nl : w0.heap.size ≤ lB
  no : w0.heap.size ≤ oB
  nr : w0.heap.size ≤ oR
  nv : w0.heap.size ≤ lvB
  df : ∀ d, d ∈ dl → w0.heap.size ≤ d ∧ W.heap[d]? = some (.deferred (some []))
  nd : dl.Nodup

theorem heap_ne_of {W : World} {a b : Nat} {o o' : Obj} (h : W.heap[a]? = some o) (h' : W.heap[b]? = some o') (hne : o ≠ o') : a ≠ b := by
  rintro rfl; rw [h] at h'; exact hne (Option.some.inj h')
section
variable {w0 : World} {Dm : Nat → Prop} {bB lB oB oR lvB : Nat} {X Y Z : Int} {N g off cap : Nat} {dl : List Nat} {lev : Nat} {out : List Nat} {vs : Nat → Value} {Ls : Nat → List Nat} {W W' : World}
theorem Sp.own_ne_cells (h : Sp w0 Dm bB lB oB oR lvB X Y Z N g off cap dl lev out vs Ls W) {m k : Nat} (hm : m < 16) (hk : (vs m).ownBlock = some k) {cs : Array Value} {t : TypeId} {b : Nat} (hb : W.heap[b]? = some (.cells cs t (0, 0))) (ht : t ≠ 3) : k ≠ b := by
  obtain ⟨cur, h1⟩ := ownsRow_blk (h.ls.rows m hm) hk
  exact heap_ne_of h1 hb (by intro e; cases e; exact ht rfl)
theorem Sp.same (h : Sp w0 Dm bB lB oB oR lvB X Y Z N g off cap dl lev out vs Ls W) (h1 : W'.os = W.os) (h2 : W'.tape = W.tape) (h3 : W'.output = W.output) (h4 : W.heap.size ≤ W'.heap.size)
    (h5 : ∀ k o, W.heap[k]? = some o → (k < w0.heap.size ∨ o.isCells = true ∨ k ∈ dl) → W'.heap[k]? = W.heap[k]?) : Sp w0 Dm bB lB oB oR lvB X Y Z N g off cap dl lev out vs Ls W' := by
  have hc : ∀ {k : Nat} {cs : Array Value} {t : TypeId} {fr : Nat × Nat}, W.heap[k]? = some (Obj.cells cs t fr) → W'.heap[k]? = W.heap[k]? := fun hk => h5 _ _ hk (.inr (.inl rfl))
  refine { os := h1.trans h.os, tape := h2.trans h.tape, output := h3.trans h.output, size := Nat.le_trans h.size h4, old := fun k hk hd => ?_, bx := (hc h.bx).trans h.bx, ob := (hc h.ob).trans h.ob, orow := (hc h.orow).trans h.orow, lv := (hc h.lv).trans h.lv
           ls := h.ls.same ?_ (fun m hm g hg => ?_), dm := h.dm, nlv := h.nlv, nb := h.nb, nl := h.nl, no := h.no, nr := h.nr, nv := h.nv, df := fun d hd => ⟨(h.df d hd).1, (h5 d _ (h.df d hd).2 (.inr (.inr hd))).trans (h.df d hd).2⟩, nd := h.nd }
  · have := h.size
    have hlt : k < W.heap.size := by omega
    exact (h5 k _ (Array.getElem?_eq_getElem hlt) (.inl hk)).trans (h.old k hk hd)
  · obtain ⟨cur, hb, _⟩ := h.ls.blk; exact hc hb
  · obtain ⟨cur, hb⟩ := ownsRow_blk (h.ls.rows m hm) hg; exact hc hb
theorem Sp.appended {w1 : World} {m s : Nat} {V' : Value} {tmp : Obj} (h : Sp w0 Dm bB lB oB oR lvB X Y Z N g off cap dl lev out vs Ls W) (hm : m < 16) (ha : Appended W (vs m) (Ls m).length (intsV (Ls m)) tmp (.int .i64 s) V' w1) :
    Sp w0 Dm bB lB oB oR lvB X Y Z N g off cap dl lev out (upd vs m V') (upd Ls m (Ls m ++ [s])) (w1.setCell ⟨lB, m, none⟩ V') ∧ KpL lB W (w1.setCell ⟨lB, m, none⟩ V') ∧ KeepsOthers W (w1.setCell ⟨lB, m, none⟩ V') := by
  obtain ⟨hL, hk, hsz⟩ := h.ls.appended hm ha
  obtain ⟨cur, hcur, _⟩ := h.ls.blk
  have hlt : ∀ {k : Nat} {o : Obj}, W.heap[k]? = some o → k < W.heap.size := fun hk => (Array.getElem?_eq_some_iff.1 hk).1
  have hcells : ∀ {k : Nat} {cs : Array Value} {t : TypeId}, W.heap[k]? = some (Obj.cells cs t (0, 0)) → t ≠ 3 → t ≠ 53 → (w1.setCell ⟨lB, m, none⟩ V').heap[k]? = W.heap[k]? := fun hb h3 h53 =>
    hk _ (hlt hb) (heap_ne_of hb hcur (by intro e; cases e; exact h53 rfl)) (fun e => h.own_ne_cells hm e hb h3 rfl)
  have hoth : ∀ {k : Nat} {o : Obj}, W.heap[k]? = some o → o.isCells = false → (w1.setCell ⟨lB, m, none⟩ V').heap[k]? = W.heap[k]? := fun {k o} hb hc =>
    hk _ (hlt hb) (heap_ne_of hb hcur (by intro e; rw [e] at hc; cases hc)) (fun e => by
      obtain ⟨c2, h2⟩ := ownsRow_blk (h.ls.rows m hm) e
      rw [hb] at h2; cases h2; cases hc)
  refine ⟨{ os := (ha.grow.os).trans h.os, tape := (ha.grow.tape).trans h.tape, output := (ha.grow.output).trans h.output, size := Nat.le_trans h.size hsz, old := fun k hk' hd => ?_
            bx := (hcells h.bx (by decide) (by decide)).trans h.bx, ob := (hcells h.ob (by decide) (by decide)).trans h.ob, orow := (hcells h.orow (by decide) (by decide)).trans h.orow
            lv := (hk _ h.lv.lt (heap_ne_of h.lv hcur (by intro e; cases e)) (h.nlv m hm)).trans h.lv, ls := hL, dm := fun j hj k hjk => ?_, nlv := fun j hj => ?_
            nb := h.nb, nl := h.nl, no := h.no, nr := h.nr, nv := h.nv, df := fun d hd => ⟨(h.df d hd).1, (hoth (h.df d hd).2 rfl).trans (h.df d hd).2⟩, nd := h.nd }, ⟨hsz, fun k cs t fr hb hf => ?_, fun k hkl hf => ?_⟩, ⟨hsz, fun k o hb hc => (hoth hb hc).trans hb⟩⟩
  · have := h.size
    have := h.nl
    refine (hk k (by omega) (by omega) (fun e => ?_)).trans (h.old k hk' hd)
    rcases h.dm m hm k e with h1 | h1
    · exact hd h1
    · omega
  · by_cases e : j = m
    · subst e
      rw [upd_same] at hjk
      rcases ha.at_ with h1 | h1
      · exact h.dm j hj k (h1.symm.trans hjk)
      · rw [h1] at hjk; right; have := h.size; simp at hjk; omega
    · rw [upd_ne _ _ e] at hjk; exact h.dm j hj k hjk
  · by_cases e : j = m
    · subst e
      rw [upd_same]
      rcases ha.at_ with h1 | h1
      · rw [h1]; exact h.nlv j hj
      · rw [h1]; have := h.lv.lt; simp; omega
    · rw [upd_ne _ _ e]; exact h.nlv j hj
  · refine (hk k (hlt hb) (fun e => hf ((h.ls.iff_foot k).2 (.inl e))) (fun e => hf ((h.ls.iff_foot k).2 (.inr ⟨m, hm, e⟩)))).trans hb
  · rcases (hL.iff_foot k).1 hf with e | ⟨j, hj, e⟩
    · exact (h.ls.iff_foot k).2 (.inl e)
    · by_cases hjm : j = m
      · subst hjm
        rw [upd_same] at e
        rcases ha.at_ with h1 | h1
        · exact (h.ls.iff_foot k).2 (.inr ⟨j, hj, h1.symm.trans e⟩)
        · rw [h1] at e; simp at e; omega
      · rw [upd_ne _ _ hjm] at e; exact (h.ls.iff_foot k).2 (.inr ⟨j, hj, e⟩)
end
end Go.Proofs.Ytmgiabehooghcaa
namespace Go.Proofs.Ytmgiabehooghcaa
open Go.RowKit Go.Shelf
attribute [local go_sem] Oper.semAt_some

theorem eval_tmp (a : Act) (t : Nat) : a.eval (.tmp t) = a.tmps[t]?.getD undef := by simp [Act.eval]
noncomputable def C26 : Code := Try.f26.body.getD .skip
structure Cells (w0 : World) (Dm : Nat → Prop) (N g off : Nat) (K V : Nat → Nat) (cl : Nat → Bool) : Prop where
  n : N ≤ 262144
  lt : g < w0.heap.size
  nd : ¬ Dm g
  kind : ∀ s, s < N → w0.cell? ⟨g, off + s * 2, none⟩ = some (.int .u8 (K s))
  level : ∀ s, s < N → w0.cell? ⟨g, off + s * 2 + 1, none⟩ = some (.int .u8 (V s))
  clear : ∀ s, s < N → ∀ W m, CallsIn Fence.wide m Try.prog 25 #[.agg #[.int .u8 (K s), .int .u8 (V s)]] W fun e w' => e = .returned (.bool (cl s)) ∧ Below W.heap.size W w'
def sfilt (cl : Nat → Bool) (out : List Nat) (l : Nat) (L : List Nat) : List Nat := L.filter fun s => cl s && decide (out.getD s 0 < l)
theorem sfilt_snoc (cl : Nat → Bool) (out : List Nat) (l : Nat) (L : List Nat) (s : Nat) : sfilt cl out l (L ++ [s]) = sfilt cl out l L ++ if (cl s && decide (out.getD s 0 < l)) = true then [s] else [] := by
  unfold sfilt; rw [List.filter_append]; simp [List.filter_cons]
section
variable {w0 : World} {Dm : Nat → Prop} {bB lB oB oR lvB : Nat} {X Y Z : Int} {N g off cap : Nat} {dl : List Nat} {lev : Nat} {out : List Nat} {Ls : Nat → List Nat} {K V : Nat → Nat} {cl : Nat → Bool}
def Between (w0 : World) (Dm : Nat → Prop) (bB lB oB oR lvB : Nat) (X Y Z : Int) (N g off cap : Nat) (dl : List Nat) (lev : Nat) (out : List Nat) (Ls : Nat → List Nat) (cl : Nat → Bool) (pre : List (Fin N)) (W : World) : Prop :=
  ∃ vs, Sp w0 Dm bB lB oB oR lvB X Y Z N g off cap dl lev out vs (upd Ls (lev - 1) (Ls (lev - 1) ++ sfilt cl out (lev - 1) (pre.map fun s => s.val))) W
theorem body_in (n l : Nat) (hn : 1 ≤ n) (hc : Cells w0 Dm N g off K V cl) (hlev : 1 ≤ lev ∧ lev ≤ 15) (ho : out.length = N) (ho15 : ∀ i, out.getD i 0 ≤ 15) (hcap : (Ls (lev - 1)).length + 6 ≤ 7 * N + 7) (pre : List (Fin N)) (x : Fin N) (hpre : pre.length < 6) (W : World)
    (hI : Between w0 Dm bB lB oB oR lvB X Y Z N g off cap dl lev out Ls cl pre W) (a : Act)
    (ha : RI [(2, .pointer (some ⟨bB, 0, none⟩)), (3, .pointer (some ⟨lB, 0, none⟩)), (5, .pointer (some ⟨oB, 0, none⟩)), (6, .pointer (some ⟨lvB, 0, none⟩)), (9, .int .i64 x.val)] [] 76 [] (fun _ _ => True) (fun _ => false) a W) :
    rg.2.2.2.wpIn (Fence.wide.inRound l) n Try.prog (ownPostK (KpL lB) (Between w0 Dm bB lB oB oR lvB X Y Z N g off cap dl lev out Ls cl) (fun _ _ _ => False) (pre ++ [x]) W) a W := by
  obtain ⟨vs, hS⟩ := hI
  have e : rg.2.2.2 = .block 5 (.seq (regOf 13 C26) (.cond (.tmp 63) (regOf 14 C26) .skip)) := by kernel_rfl
  rw [e]
  refine wpIn_block (wpIn_seq ?_)
  have hx := x.isLt
  have hgk : W.heap[g]? = w0.heap[g]? := hS.old g hc.lt hc.nd
  have c3 : W.cell? ⟨bB, 3, none⟩ = some (.slice (some ⟨g, off, none⟩) N cap) := by simp [World.cell?, hS.bx]
  have horow : W.cell? ⟨oR, x.val, none⟩ = some (.int .u8 (out.getD x.val 0)) := by
    simp only [World.cell?, hS.orow, bytesV]
    simp [List.getD_eq_getElem?_getD, show x.val < out.length from by omega]
  have hz : ∀ {k o}, W.heap[k]? = some o → k < W.heap.size := fun h => (Array.getElem?_eq_some_iff.1 h).1
  have hgl : g < W.heap.size := Nat.lt_of_lt_of_le hc.lt hS.size
  have hk0 := (cell_of_heap hgk (off + x.val * 2)).trans (hc.kind x.val hx)
  have hk1 := (cell_of_heap hgk (off + x.val * 2 + 1)).trans (hc.level x.val hx)
  have hlen : (upd Ls (lev - 1) (Ls (lev - 1) ++ sfilt cl out (lev - 1) (pre.map fun s => s.val)) (lev - 1)).length < 17592186044415 := by
    rw [upd_same, List.length_append]
    have := List.length_filter_le (fun s => cl s && decide (out.getD s 0 < lev - 1)) (pre.map fun s => s.val)
    unfold sfilt
    rw [List.length_map] at this
    have := hc.n
    omega
  have fin0 : ∀ (b : Bool), b = (cl x.val && decide (out.getD x.val 0 < lev - 1)) → ∀ (a : Act) (w : World), a.tmps[63]?.getD undef = .bool b →
      RI [(2, .pointer (some ⟨bB, 0, none⟩)), (3, .pointer (some ⟨lB, 0, none⟩)), (5, .pointer (some ⟨oB, 0, none⟩)), (6, .pointer (some ⟨lvB, 0, none⟩)), (9, .int .i64 x.val)] [] 76 [] (fun _ w => Below W.heap.size W w) (fun _ => false) a w →
      (Code.cond (.tmp 63) (regOf 14 C26) .skip).wpIn (Fence.wide.inRound l) n Try.prog (Exit.inBlock 5 (ownPostK (KpL lB) (Between w0 Dm bB lB oB oR lvB X Y Z N g off cap dl lev out Ls cl) (fun _ _ _ => False) (pre ++ [x]) W)) a w := by
    intro b hb a w h63 hR
    have hB := hR.wp
    have hS2 : Sp w0 Dm bB lB oB oR lvB X Y Z N g off cap dl lev out vs (upd Ls (lev - 1) (Ls (lev - 1) ++ sfilt cl out (lev - 1) (pre.map fun s => s.val))) w :=
      hS.same hB.os hB.tape hB.output hB.size fun k o hk _ => hB.block k (hz hk)
    have hkp : KpL lB W w := ⟨hB.size, fun k cs t fr hk _ => (hB.block k (hz hk)).trans hk, fun k _ hf => (foot_congr (hB.block lB hS.ls.lt) k).1 hf⟩
    have hko : KeepsOthers W w := ⟨hB.size, fun k o hk _ => (hB.block k (hz hk)).trans hk⟩
    refine wpIn_cond (t := b) (by rw [eval_tmp]; exact h63) ?_
    cases b with
    | true =>
      refine r14 Fence.wide n l bB lB oB lvB lev x.val vs (upd Ls (lev - 1) (Ls (lev - 1) ++ sfilt cl out (lev - 1) (pre.map fun s => s.val))) w hS2.ls hS2.lv hlev hS2.nlv hlen _ a ⟨hR.size, hR.defers, hR.inp, by simp, trivial⟩ ?_
      intro a' w1 V' hA
      obtain ⟨h1, h2, h3⟩ := hS2.appended (by omega) hA
      refine ⟨hko.trans h3, hkp.trans h2, upd vs (lev - 1) V', ?_⟩
      have e2 : upd (upd Ls (lev - 1) (Ls (lev - 1) ++ sfilt cl out (lev - 1) (pre.map fun s => s.val))) (lev - 1) ((upd Ls (lev - 1) (Ls (lev - 1) ++ sfilt cl out (lev - 1) (pre.map fun s => s.val))) (lev - 1) ++ [x.val]) =
          upd Ls (lev - 1) (Ls (lev - 1) ++ sfilt cl out (lev - 1) ((pre ++ [x]).map fun s => s.val)) := by
        rw [upd_same, List.map_append, List.map_singleton, sfilt_snoc, if_pos hb.symm, List.append_assoc]
        funext k
        unfold upd
        split <;> rfl
      rw [e2] at h1
      exact h1
    | false =>
      refine wpIn_skip ⟨hko, hkp, vs, ?_⟩
      have e2 : Ls (lev - 1) ++ sfilt cl out (lev - 1) ((pre ++ [x]).map fun s => s.val) = Ls (lev - 1) ++ sfilt cl out (lev - 1) (pre.map fun s => s.val) := by
        rw [List.map_append, List.map_singleton, sfilt_snoc, if_neg (by rw [← hb]; simp), List.append_nil]
      rw [e2]
      exact hS2
  have hclr := hc.clear x.val hx
  cases hcl : cl x.val with
  | true =>
    rw [hcl] at hclr
    refine r13_true Fence.wide n trivial hn l bB lB oB lvB g off cap oR N lev x.val (K x.val) (V x.val) (out.getD x.val 0) W c3 hS.lv.cell hlev hx hc.n hk0 hk1 hS.ob.cell horow (ho15 _) hS.ob.lt (hz hS.orow) hS.lv.lt (hz hS.bx) hgl hclr _ a ⟨ha.size, ha.defers, ha.inp, by simp, Below.refl _ _⟩ ?_
    intro a' w' h63 hR
    refine fin0 _ ?_ a' w' h63 hR
    rw [hcl, Bool.true_and]
    congr 1
    exact propext ⟨fun h => by omega, fun h => by omega⟩
  | false =>
    rw [hcl] at hclr
    refine r13_false Fence.wide n trivial hn l bB lB oB lvB g off cap oR N lev x.val (K x.val) (V x.val) (out.getD x.val 0) W c3 hS.lv.cell hlev hx hc.n hk0 hk1 hS.ob.cell horow (ho15 _) hS.ob.lt (hz hS.orow) hS.lv.lt (hz hS.bx) hgl hclr _ a ⟨ha.size, ha.defers, ha.inp, by simp, Below.refl _ _⟩ ?_
    intro a' w' h63 hR
    exact fin0 false (by rw [hcl]; rfl) a' w' h63 hR
end
end Go.Proofs.Ytmgiabehooghcaa
namespace Go.Proofs.Ytmgiabehooghcaa
open Go.RowKit Go.Shelf
attribute [local go_sem] Oper.semAt_some

inductive SomeP (I : Nat × Nat × Nat → (Nat → Bool) → Act → World → Prop) (X : Nat → Bool) (a : Act) (w : World) : Prop
  | mk (p : Nat × Nat × Nat) (h : I p X a w) : SomeP I X a w
structure W35 (W2 : World) (x z y : Int) (p : Nat × Nat × Nat) (b18 b19 b20 b21 b22 b23 : Bool) (w : World) : Prop where
  bel : Below W2.heap.size W2 w
  box18 : b18 = true → Boxed w p.1 3 (.int .i64 (if b21 = true then x else 0))
  box19 : b19 = true → Boxed w p.2.1 3 (.int .i64 (if b22 = true then z else 0))
  box20 : b20 = true → Boxed w p.2.2 3 (.int .i64 (if b23 = true then y else 0))
  g18 : b18 = true → W2.heap.size ≤ p.1
  g19 : b19 = true → W2.heap.size ≤ p.2.1
  g20 : b20 = true → W2.heap.size ≤ p.2.2
  n1 : b18 = true → b19 = true → p.1 ≠ p.2.1
  n2 : b18 = true → b20 = true → p.1 ≠ p.2.2
  n3 : b19 = true → b20 = true → p.2.1 ≠ p.2.2
section
variable {W2 : World} {x z y : Int} {p : Nat × Nat × Nat} {b18 b19 b20 b21 b22 b23 : Bool} {w : World}
theorem W35.alloc18 (h : W35 W2 x z y p b18 b19 b20 b21 b22 b23 w) (h1 : b18 = false) (h2 : b21 = false) : W35 W2 x z y (w.heap.size, p.2.1, p.2.2) true b19 b20 b21 b22 b23 (w.alloc (.cells #[.int .i64 0] 3)) :=
  ⟨h.bel.trans ((Below.refl _ _).alloc h.bel.size _), fun _ => by rw [h2]; exact Boxed.new w 3 _, fun e => (h.box19 e).alloc _, fun e => (h.box20 e).alloc _, fun _ => h.bel.size, h.g19, h.g20, fun _ e => Nat.ne_of_gt (h.box19 e).lt, fun _ e => Nat.ne_of_gt (h.box20 e).lt, h.n3⟩
theorem W35.alloc19 (h : W35 W2 x z y p b18 b19 b20 b21 b22 b23 w) (h1 : b19 = false) (h2 : b22 = false) : W35 W2 x z y (p.1, w.heap.size, p.2.2) b18 true b20 b21 b22 b23 (w.alloc (.cells #[.int .i64 0] 3)) :=
  ⟨h.bel.trans ((Below.refl _ _).alloc h.bel.size _), fun e => (h.box18 e).alloc _, fun _ => by rw [h2]; exact Boxed.new w 3 _, fun e => (h.box20 e).alloc _, h.g18, fun _ => h.bel.size, h.g20, fun e _ => Nat.ne_of_lt (h.box18 e).lt, h.n2, fun _ e => Nat.ne_of_gt (h.box20 e).lt⟩
theorem W35.alloc20 (h : W35 W2 x z y p b18 b19 b20 b21 b22 b23 w) (h1 : b20 = false) (h2 : b23 = false) : W35 W2 x z y (p.1, p.2.1, w.heap.size) b18 b19 true b21 b22 b23 (w.alloc (.cells #[.int .i64 0] 3)) :=
  ⟨h.bel.trans ((Below.refl _ _).alloc h.bel.size _), fun e => (h.box18 e).alloc _, fun e => (h.box19 e).alloc _, fun _ => by rw [h2]; exact Boxed.new w 3 _, h.g18, h.g19, fun _ => h.bel.size, h.n1, fun e _ => Nat.ne_of_lt (h.box18 e).lt, fun e _ => Nat.ne_of_lt (h.box19 e).lt⟩
theorem W35.store18 (h : W35 W2 x z y p b18 b19 b20 b21 b22 b23 w) (h1 : b18 = true) (h2 : b21 = false) : W35 W2 x z y p b18 b19 b20 true b22 b23 (w.setCell ⟨p.1, 0, none⟩ (.int .i64 x)) :=
  ⟨h.bel.setCell (h.g18 h1) _, fun _ => (h.box18 h1).set _, fun e => (h.box19 e).other (Ne.symm (h.n1 h1 e)) _, fun e => (h.box20 e).other (Ne.symm (h.n2 h1 e)) _, h.g18, h.g19, h.g20, h.n1, h.n2, h.n3⟩
theorem W35.store19 (h : W35 W2 x z y p b18 b19 b20 b21 b22 b23 w) (h1 : b19 = true) (h2 : b22 = false) : W35 W2 x z y p b18 b19 b20 b21 true b23 (w.setCell ⟨p.2.1, 0, none⟩ (.int .i64 z)) :=
  ⟨h.bel.setCell (h.g19 h1) _, fun e => (h.box18 e).other (h.n1 e h1) _, fun _ => (h.box19 h1).set _, fun e => (h.box20 e).other (Ne.symm (h.n3 h1 e)) _, h.g18, h.g19, h.g20, h.n1, h.n2, h.n3⟩
theorem W35.store20 (h : W35 W2 x z y p b18 b19 b20 b21 b22 b23 w) (h1 : b20 = true) (h2 : b23 = false) : W35 W2 x z y p b18 b19 b20 b21 b22 true (w.setCell ⟨p.2.2, 0, none⟩ (.int .i64 y)) :=
  ⟨h.bel.setCell (h.g20 h1) _, fun e => (h.box18 e).other (h.n2 e h1) _, fun e => (h.box19 e).other (h.n3 e h1) _, fun _ => (h.box20 h1).set _, h.g18, h.g19, h.g20, h.n1, h.n2, h.n3⟩
end
theorem sides_in (n : Nat) (X Y Z i : Nat) (cv : Value) (W : World) (hX0 : 0 < X) (hZ0 : 0 < Z) (hi : i < 262144) :
    CallsIn Fence.wide n Try.prog 35 #[.agg #[.int .i64 X, .int .i64 Y, .int .i64 Z, cv], .int .i64 i] W fun e W' => ∃ aB xB bB zB yyB : Nat, e = .returned (.func (.func 40) #[] #[.pointer (some ⟨aB, 0, none⟩), .pointer (some ⟨xB, 0, none⟩), .pointer (some ⟨bB, 0, none⟩), .pointer (some ⟨zB, 0, none⟩), .pointer (some ⟨yyB, 0, none⟩)]) ∧
      Below W.heap.size W W' ∧ (W.heap.size ≤ aB ∧ W.heap.size ≤ xB ∧ W.heap.size ≤ bB ∧ W.heap.size ≤ zB ∧ W.heap.size ≤ yyB) ∧ Boxed W' aB 3 (.int .i64 i) ∧ Boxed W' xB 3 (.int .i64 (i % X : Nat)) ∧ Boxed W' zB 3 (.int .i64 (i / X % Z : Nat)) ∧ Boxed W' yyB 3 (.int .i64 (i / X / Z : Nat)) ∧
      W'.heap[bB]? = some (.cells #[.int .i64 X, .int .i64 Y, .int .i64 Z, cv] 24 (0, 0)) := by
  have hmix : Try.prog.follows .mixedOrders = true := by kernel_rfl
  have q0 : (0 : Int) ≤ (i : Int) / X := Int.ediv_nonneg (by omega) (by omega)
  have q1 : (i : Int) / X ≤ 262144 := by have := Int.ediv_le_self (X : Int) (show (0 : Int) ≤ i by omega); omega
  have q2 : (0 : Int) ≤ (i : Int) / X / Z := Int.ediv_nonneg q0 (by omega)
  have q3 : (i : Int) / X / Z ≤ 262144 := by have := Int.ediv_le_self (Z : Int) q0; omega
  refine callsIn_of_wp Try.func35 rfl trivial ?_
  simp only [Try.ntmps35, List.size_toArray, List.length_cons, List.length_nil, Nat.reduceAdd, Nat.reduceSub, Array.replicate_succ, Array.replicate_zero, List.push_toArray, List.append_toArray, List.nil_append, List.cons_append]
  gi_wp2
  have hk1 := World.alloc_heap_new W (.cells #[.int .i64 X, .int .i64 Y, .int .i64 Z, cv] 24)
  have hk2 : ((W.alloc (.cells #[.int .i64 X, .int .i64 Y, .int .i64 Z, cv] 24)).alloc (.cells #[.int .i64 i] 3)).heap[W.heap.size]? = some (.cells #[.int .i64 X, .int .i64 Y, .int .i64 Z, cv] 24) := (Below.heap_alloc _ _ _ (by simp)).trans hk1
  have hk3 : ((W.alloc (.cells #[.int .i64 X, .int .i64 Y, .int .i64 Z, cv] 24)).alloc (.cells #[.int .i64 i] 3)).heap[W.heap.size + 1]? = some (.cells #[.int .i64 i] 3) := by
    have := World.alloc_heap_new (W.alloc (.cells #[.int .i64 X, .int .i64 Y, .int .i64 Z, cv] 24)) (.cells #[.int .i64 i] 3)
    rwa [World.size_alloc] at this
  have hz : ((W.alloc (.cells #[.int .i64 X, .int .i64 Y, .int .i64 Z, cv] 24)).alloc (.cells #[.int .i64 i] 3)).heap.size = W.heap.size + 2 := by simp
  have hbel : Below W.heap.size W ((W.alloc (.cells #[.int .i64 X, .int .i64 Y, .int .i64 Z, cv] 24)).alloc (.cells #[.int .i64 i] 3)) := ((Below.refl _ _).alloc (Nat.le_refl _) _).alloc (by simp) _
  generalize (W.alloc (.cells #[.int .i64 X, .int .i64 Y, .int .i64 Z, cv] 24)).alloc (.cells #[.int .i64 i] 3) = W2 at hk2 hk3 hz hbel ⊢
  have c0 : W2.cell? ⟨W.heap.size, 0, none⟩ = some (.int .i64 X) := by simp [World.cell?, hk2]
  have c2 : W2.cell? ⟨W.heap.size, 2, none⟩ = some (.int .i64 Z) := by simp [World.cell?, hk2]
  have c1 : W2.cell? ⟨W.heap.size + 1, 0, none⟩ = some (.int .i64 i) := by simp [World.cell?, hk3]
  have z0 : W.heap.size < W2.heap.size := by omega
  have z1 : W.heap.size + 1 < W2.heap.size := by omega
  have H1 := Lib.hid hk2
  have H2 := Lib.hid hk3
  have H3 := Lib.hid hz
  clear hk1 hk2 hk3 hz
  refine region_inv (SomeP fun p => RI [(2, .pointer (some ⟨W.heap.size, 0, none⟩)), (3, .pointer (some ⟨W.heap.size + 1, 0, none⟩))]
    [(0, 8, .int .i64 i), (1, 9, .pointer (some ⟨W.heap.size, 0, none⟩)), (2, 10, .int .i64 X), (3, 11, .int .i64 ((i : Int) % X)), (4, 12, .int .i64 i), (5, 13, .pointer (some ⟨W.heap.size, 0, none⟩)), (6, 14, .int .i64 X), (7, 15, .int .i64 ((i : Int) / X)), (8, 16, .pointer (some ⟨W.heap.size, 2, none⟩)), (9, 17, .int .i64 Z), (10, 18, .int .i64 ((i : Int) / X % Z)), (11, 19, .int .i64 i), (12, 20, .pointer (some ⟨W.heap.size, 0, none⟩)), (13, 21, .int .i64 X), (14, 22, .int .i64 ((i : Int) / X)), (15, 23, .pointer (some ⟨W.heap.size, 2, none⟩)), (16, 24, .int .i64 Z), (17, 25, .int .i64 ((i : Int) / X / Z)), (18, 5, .pointer (some ⟨p.1, 0, none⟩)), (19, 6, .pointer (some ⟨p.2.1, 0, none⟩)), (20, 7, .pointer (some ⟨p.2.2, 0, none⟩))] 27 [] (fun Xs w => W35 W2 ((i : Int) % X) ((i : Int) / X % Z) ((i : Int) / X / Z) p (Xs 18) (Xs 19) (Xs 20) (Xs 21) (Xs 22) (Xs 23) w)) hmix (by kernel_rfl) ⟨(0, 0, 0), by simp, rfl, by simp, by simp, ⟨(Below.refl _ _).drew, fun h => (by cases h), fun h => (by cases h), fun h => (by cases h), fun h => (by cases h), fun h => (by cases h), fun h => (by cases h), fun h => (by cases h), fun h => (by cases h), fun h => (by cases h)⟩⟩ ⟨?_, ?_, ?_, ?_, ?_, ?_, ?_, ?_, ?_, ?_, ?_, ?_, ?_, ?_, ?_, ?_, ?_, ?_, ?_, ?_, ?_, ?_, ?_, ?_, trivial⟩ ?_
  · intro Xs a w hX hdep hC hJ
    obtain ⟨p, hI⟩ := hJ
    have e3 := hI.gi 3 rfl
    have cc := (hI.wp.bel.cell (p := ⟨W.heap.size + 1, 0, none⟩) z1).trans c1
    go_simp
    exact ⟨p, hI.put' (k := 0) (d := 8) (v := .int .i64 i) (by decide) (by simp) (by simp) (by simp) (by simpa [addX] using hI.wp)⟩
  · intro Xs a w hX hdep hC hJ
    obtain ⟨p, hI⟩ := hJ
    have e2 := hI.gi 2 rfl; go_simp
    exact ⟨p, hI.put' (k := 1) (d := 9) (v := .pointer (some ⟨W.heap.size, 0, none⟩)) (by decide) (by simp) (by simp) (by simp) (by simpa [addX] using hI.wp)⟩
  · intro Xs a w hX hdep hC hJ
    obtain ⟨p, hI⟩ := hJ
    have e9 := hI.gk 1 rfl (hdep ⟨1, .data⟩ (by simp) rfl)
    have cc := (hI.wp.bel.cell (p := ⟨W.heap.size, 0, none⟩) z0).trans c0
    go_simp
    exact ⟨p, hI.put' (k := 2) (d := 10) (v := .int .i64 X) (by decide) (by simp) (by simp) (by simp) (by simpa [addX] using hI.wp)⟩
  · intro Xs a w hX hdep hC hJ
    obtain ⟨p, hI⟩ := hJ
    have e8 := hI.gk 0 rfl (hdep ⟨0, .data⟩ (by simp) rfl); have e10 := hI.gk 2 rfl (hdep ⟨2, .data⟩ (by simp) rfl)
    have d1 : ¬ X = 0 := by omega
    go_simp
    exact ⟨p, hI.put' (k := 3) (d := 11) (v := .int .i64 ((i : Int) % X)) (by decide) (by simp) (by simp) (by simp) (by simpa [addX] using hI.wp)⟩
  · intro Xs a w hX hdep hC hJ
    obtain ⟨p, hI⟩ := hJ
    have e3 := hI.gi 3 rfl
    have cc := (hI.wp.bel.cell (p := ⟨W.heap.size + 1, 0, none⟩) z1).trans c1
    go_simp
    exact ⟨p, hI.put' (k := 4) (d := 12) (v := .int .i64 i) (by decide) (by simp) (by simp) (by simp) (by simpa [addX] using hI.wp)⟩
  · intro Xs a w hX hdep hC hJ
    obtain ⟨p, hI⟩ := hJ
    have e2 := hI.gi 2 rfl; go_simp
    exact ⟨p, hI.put' (k := 5) (d := 13) (v := .pointer (some ⟨W.heap.size, 0, none⟩)) (by decide) (by simp) (by simp) (by simp) (by simpa [addX] using hI.wp)⟩
  · intro Xs a w hX hdep hC hJ
    obtain ⟨p, hI⟩ := hJ
    have e13 := hI.gk 5 rfl (hdep ⟨5, .data⟩ (by simp) rfl)
    have cc := (hI.wp.bel.cell (p := ⟨W.heap.size, 0, none⟩) z0).trans c0
    go_simp
    exact ⟨p, hI.put' (k := 6) (d := 14) (v := .int .i64 X) (by decide) (by simp) (by simp) (by simp) (by simpa [addX] using hI.wp)⟩
  · intro Xs a w hX hdep hC hJ
    obtain ⟨p, hI⟩ := hJ
    have e12 := hI.gk 4 rfl (hdep ⟨4, .data⟩ (by simp) rfl); have e14 := hI.gk 6 rfl (hdep ⟨6, .data⟩ (by simp) rfl)
    have d1 : ¬ X = 0 := by omega
    have d0 : IntKind.i64.wrap ((i : Int) / X) = (i : Int) / X := wrap_in (by omega) (by omega)
    go_simp
    exact ⟨p, hI.put' (k := 7) (d := 15) (v := .int .i64 ((i : Int) / X)) (by decide) (by simp) (by simp) (by simp) (by simpa [addX] using hI.wp)⟩
  · intro Xs a w hX hdep hC hJ
    obtain ⟨p, hI⟩ := hJ
    have e2 := hI.gi 2 rfl; go_simp
    exact ⟨p, hI.put' (k := 8) (d := 16) (v := .pointer (some ⟨W.heap.size, 2, none⟩)) (by decide) (by simp) (by simp) (by simp) (by simpa [addX] using hI.wp)⟩
  · intro Xs a w hX hdep hC hJ
    obtain ⟨p, hI⟩ := hJ
    have e16 := hI.gk 8 rfl (hdep ⟨8, .data⟩ (by simp) rfl)
    have cc := (hI.wp.bel.cell (p := ⟨W.heap.size, 2, none⟩) z0).trans c2
    go_simp
    exact ⟨p, hI.put' (k := 9) (d := 17) (v := .int .i64 Z) (by decide) (by simp) (by simp) (by simp) (by simpa [addX] using hI.wp)⟩
  · intro Xs a w hX hdep hC hJ
    obtain ⟨p, hI⟩ := hJ
    have e15 := hI.gk 7 rfl (hdep ⟨7, .data⟩ (by simp) rfl); have e17 := hI.gk 9 rfl (hdep ⟨9, .data⟩ (by simp) rfl)
    have d1 : ¬ Z = 0 := by omega
    have d0 : Int.tmod ((i : Int) / X) (Z : Int) = (i : Int) / X % Z := Int.tmod_eq_emod_of_nonneg q0
    go_simp
    exact ⟨p, hI.put' (k := 10) (d := 18) (v := .int .i64 ((i : Int) / X % Z)) (by decide) (by simp) (by simp) (by simp) (by simpa [addX] using hI.wp)⟩
  · intro Xs a w hX hdep hC hJ
    obtain ⟨p, hI⟩ := hJ
    have e3 := hI.gi 3 rfl
    have cc := (hI.wp.bel.cell (p := ⟨W.heap.size + 1, 0, none⟩) z1).trans c1
    go_simp
    exact ⟨p, hI.put' (k := 11) (d := 19) (v := .int .i64 i) (by decide) (by simp) (by simp) (by simp) (by simpa [addX] using hI.wp)⟩
  · intro Xs a w hX hdep hC hJ
    obtain ⟨p, hI⟩ := hJ
    have e2 := hI.gi 2 rfl; go_simp
    exact ⟨p, hI.put' (k := 12) (d := 20) (v := .pointer (some ⟨W.heap.size, 0, none⟩)) (by decide) (by simp) (by simp) (by simp) (by simpa [addX] using hI.wp)⟩
  · intro Xs a w hX hdep hC hJ
    obtain ⟨p, hI⟩ := hJ
    have e20 := hI.gk 12 rfl (hdep ⟨12, .data⟩ (by simp) rfl)
    have cc := (hI.wp.bel.cell (p := ⟨W.heap.size, 0, none⟩) z0).trans c0
    go_simp
    exact ⟨p, hI.put' (k := 13) (d := 21) (v := .int .i64 X) (by decide) (by simp) (by simp) (by simp) (by simpa [addX] using hI.wp)⟩
  · intro Xs a w hX hdep hC hJ
    obtain ⟨p, hI⟩ := hJ
    have e19 := hI.gk 11 rfl (hdep ⟨11, .data⟩ (by simp) rfl); have e21 := hI.gk 13 rfl (hdep ⟨13, .data⟩ (by simp) rfl)
    have d1 : ¬ X = 0 := by omega
    have d0 : IntKind.i64.wrap ((i : Int) / X) = (i : Int) / X := wrap_in (by omega) (by omega)
    go_simp
    exact ⟨p, hI.put' (k := 14) (d := 22) (v := .int .i64 ((i : Int) / X)) (by decide) (by simp) (by simp) (by simp) (by simpa [addX] using hI.wp)⟩
  · intro Xs a w hX hdep hC hJ
    obtain ⟨p, hI⟩ := hJ
    have e2 := hI.gi 2 rfl; go_simp
    exact ⟨p, hI.put' (k := 15) (d := 23) (v := .pointer (some ⟨W.heap.size, 2, none⟩)) (by decide) (by simp) (by simp) (by simp) (by simpa [addX] using hI.wp)⟩
  · intro Xs a w hX hdep hC hJ
    obtain ⟨p, hI⟩ := hJ
    have e23 := hI.gk 15 rfl (hdep ⟨15, .data⟩ (by simp) rfl)
    have cc := (hI.wp.bel.cell (p := ⟨W.heap.size, 2, none⟩) z0).trans c2
    go_simp
    exact ⟨p, hI.put' (k := 16) (d := 24) (v := .int .i64 Z) (by decide) (by simp) (by simp) (by simp) (by simpa [addX] using hI.wp)⟩
  · intro Xs a w hX hdep hC hJ
    obtain ⟨p, hI⟩ := hJ
    have e22 := hI.gk 14 rfl (hdep ⟨14, .data⟩ (by simp) rfl); have e24 := hI.gk 16 rfl (hdep ⟨16, .data⟩ (by simp) rfl)
    have d1 : ¬ Z = 0 := by omega
    have d0 : Int.tdiv ((i : Int) / X) (Z : Int) = (i : Int) / X / Z := Int.tdiv_eq_ediv_of_nonneg q0
    have d2 : IntKind.i64.wrap ((i : Int) / X / Z) = (i : Int) / X / Z := wrap_in (by omega) (by omega)
    go_simp
    exact ⟨p, hI.put' (k := 17) (d := 25) (v := .int .i64 ((i : Int) / X / Z)) (by decide) (by simp) (by simp) (by simp) (by simpa [addX] using hI.wp)⟩
  · intro Xs a w hX hdep hC hJ
    obtain ⟨p, hI⟩ := hJ
    go_simp
    have hst : Xs 21 = false := by
      cases h : Xs 21 with
      | false => rfl
      | true => have := hC 21 _ rfl h ⟨18, .data⟩ (by simp) rfl; rw [hX] at this; cases this
    refine ⟨(w.heap.size, p.2.1, p.2.2), RI.putX hI (k := 18) (d := 5) (by decide) (by simp) (by simp) (by simp) (by simp) ?_⟩
    have hW := hI.wp.alloc18 hX hst
    simpa [addX] using hW

  · intro Xs a w hX hdep hC hJ
    obtain ⟨p, hI⟩ := hJ
    go_simp
    have hst : Xs 22 = false := by
      cases h : Xs 22 with
      | false => rfl
      | true => have := hC 22 _ rfl h ⟨19, .data⟩ (by simp) rfl; rw [hX] at this; cases this
    refine ⟨(p.1, w.heap.size, p.2.2), RI.putX hI (k := 19) (d := 6) (by decide) (by simp) (by simp) (by simp) (by simp) ?_⟩
    have hW := hI.wp.alloc19 hX hst
    simpa [addX] using hW

  · intro Xs a w hX hdep hC hJ
    obtain ⟨p, hI⟩ := hJ
    go_simp
    have hst : Xs 23 = false := by
      cases h : Xs 23 with
      | false => rfl
      | true => have := hC 23 _ rfl h ⟨20, .data⟩ (by simp) rfl; rw [hX] at this; cases this
    refine ⟨(p.1, p.2.1, w.heap.size), RI.putX hI (k := 20) (d := 7) (by decide) (by simp) (by simp) (by simp) (by simp) ?_⟩
    have hW := hI.wp.alloc20 hX hst
    simpa [addX] using hW

  · intro Xs a w hX hdep hC hJ
    obtain ⟨p, hI⟩ := hJ
    have x18 : Xs 18 = true := hdep ⟨18, .data⟩ (by simp) rfl
    have e5 := hI.gk 18 rfl x18; have e11 := hI.gk 3 rfl (hdep ⟨3, .data⟩ (by simp) rfl)
    have hb := hI.wp.box18 x18
    rw [hX] at hb
    have hb1 := hb.cell
    have hb2 := hb.frozen
    go_simp
    refine ⟨p, hI.put_none' (k := 21) (by simp) ?_⟩
    have hW := hI.wp.store18 x18 hX
    simpa [addX] using hW

  · intro Xs a w hX hdep hC hJ
    obtain ⟨p, hI⟩ := hJ
    have x19 : Xs 19 = true := hdep ⟨19, .data⟩ (by simp) rfl
    have e6 := hI.gk 19 rfl x19; have e18 := hI.gk 10 rfl (hdep ⟨10, .data⟩ (by simp) rfl)
    have hb := hI.wp.box19 x19
    rw [hX] at hb
    have hb1 := hb.cell
    have hb2 := hb.frozen
    go_simp
    refine ⟨p, hI.put_none' (k := 22) (by simp) ?_⟩
    have hW := hI.wp.store19 x19 hX
    simpa [addX] using hW

  · intro Xs a w hX hdep hC hJ
    obtain ⟨p, hI⟩ := hJ
    have x20 : Xs 20 = true := hdep ⟨20, .data⟩ (by simp) rfl
    have e7 := hI.gk 20 rfl x20; have e25 := hI.gk 17 rfl (hdep ⟨17, .data⟩ (by simp) rfl)
    have hb := hI.wp.box20 x20
    rw [hX] at hb
    have hb1 := hb.cell
    have hb2 := hb.frozen
    go_simp
    refine ⟨p, hI.put_none' (k := 23) (by simp) ?_⟩
    have hW := hI.wp.store20 x20 hX
    simpa [addX] using hW

  · intro Xs a w hX hJ
    obtain ⟨p, hI⟩ := hJ
    have t18 := hX 18 (by simp)
    have t19 := hX 19 (by simp)
    have t20 := hX 20 (by simp)
    have t21 := hX 21 (by simp)
    have t22 := hX 22 (by simp)
    have t23 := hX 23 (by simp)
    have hb := hI.wp.bel
    have hx := hI.wp.box18 t18
    have hz := hI.wp.box19 t19
    have hy := hI.wp.box20 t20
    rw [if_pos t21] at hx
    rw [if_pos t22] at hz
    rw [if_pos t23] at hy
    simp only [Exit.then]
    gi_step
    refine wpIn_seq ?_
    refine region_seq (RI [(2, .pointer (some ⟨W.heap.size, 0, none⟩)), (3, .pointer (some ⟨W.heap.size + 1, 0, none⟩)), (5, .pointer (some ⟨p.1, 0, none⟩)), (6, .pointer (some ⟨p.2.1, 0, none⟩)), (7, .pointer (some ⟨p.2.2, 0, none⟩))]
    [(0, 26, .func (.func 40) #[] #[.pointer (some ⟨W.heap.size + 1, 0, none⟩), .pointer (some ⟨p.1, 0, none⟩), .pointer (some ⟨W.heap.size, 0, none⟩), .pointer (some ⟨p.2.1, 0, none⟩), .pointer (some ⟨p.2.2, 0, none⟩)]), (1, 4, .func (.func 40) #[] #[.pointer (some ⟨W.heap.size + 1, 0, none⟩), .pointer (some ⟨p.1, 0, none⟩), .pointer (some ⟨W.heap.size, 0, none⟩), .pointer (some ⟨p.2.1, 0, none⟩), .pointer (some ⟨p.2.2, 0, none⟩)])] 27 [] (fun _ w' => w' = w)) (by kernel_rfl) ⟨hI.size, hI.defers, ?_, by simp, rfl⟩ ⟨?_, ?_, trivial⟩ ?_
    · simp only [List.mem_cons, List.not_mem_nil, or_false, forall_eq_or_imp, forall_eq]
      exact ⟨hI.inp (2, .pointer (some ⟨W.heap.size, 0, none⟩)) (by simp), hI.inp (3, .pointer (some ⟨W.heap.size + 1, 0, none⟩)) (by simp), hI.kn (18, 5, .pointer (some ⟨p.1, 0, none⟩)) (by simp) t18, hI.kn (19, 6, .pointer (some ⟨p.2.1, 0, none⟩)) (by simp) t19, hI.kn (20, 7, .pointer (some ⟨p.2.2, 0, none⟩)) (by simp) t20⟩
    · intro X a w hX hdep hC hI
      have e3 := hI.gi 3 rfl
      have e5 := hI.gi 5 rfl
      have e2 := hI.gi 2 rfl
      have e6 := hI.gi 6 rfl
      have e7 := hI.gi 7 rfl
      go_simp
      exact hI.p 0 26 hI.wp (v := .func (.func 40) #[] #[.pointer (some ⟨W.heap.size + 1, 0, none⟩), .pointer (some ⟨p.1, 0, none⟩), .pointer (some ⟨W.heap.size, 0, none⟩), .pointer (some ⟨p.2.1, 0, none⟩), .pointer (some ⟨p.2.2, 0, none⟩)])
    · intro X a w hX hdep hC hI
      have e26 := hI.gk 0 rfl (hdep ⟨0, .data⟩ (by simp) rfl)
      go_simp
      exact hI.p 1 4 hI.wp (v := .func (.func 40) #[] #[.pointer (some ⟨W.heap.size + 1, 0, none⟩), .pointer (some ⟨p.1, 0, none⟩), .pointer (some ⟨W.heap.size, 0, none⟩), .pointer (some ⟨p.2.1, 0, none⟩), .pointer (some ⟨p.2.2, 0, none⟩)])
    · intro X2 a2 w2 hX2 hI2
      have e4 := hI2.kn (1, 4, .func (.func 40) #[] #[.pointer (some ⟨W.heap.size + 1, 0, none⟩), .pointer (some ⟨p.1, 0, none⟩), .pointer (some ⟨W.heap.size, 0, none⟩), .pointer (some ⟨p.2.1, 0, none⟩), .pointer (some ⟨p.2.2, 0, none⟩)]) (by simp) (hX2 1 (by simp))
      have hw2 : w2 = w := hI2.wp
      subst hw2
      refine wpIn_ret ?_
      exact ⟨hI2.defers, _, results_tmp rfl _ _ _, W.heap.size + 1, p.1, W.heap.size, p.2.1, p.2.2, by rw [Array.getD_eq_getD_getElem?]; rw [e4], hbel.trans (hb.mono hbel.size), ⟨by omega, Nat.le_trans hbel.size (hI.wp.g18 t18), Nat.le_refl _, Nat.le_trans hbel.size (hI.wp.g19 t19), Nat.le_trans hbel.size (hI.wp.g20 t20)⟩, (hb.block _ z1).trans H2.out, hx, hz, hy, (hb.block _ z0).trans H1.out⟩
end Go.Proofs.Ytmgiabehooghcaa
namespace Go.Proofs.Ytmgiabehooghcaa
open Go.RowKit Go.Shelf
attribute [local go_sem] Oper.semAt_some

def SeqGo {α : Type} (F : Fence) (n : Nat) (P : Program) (g : Nat) (lb : Array Value) (encs : α → Array Value) (Kp : World → World → Prop) (S : List α → Prop) (N : Nat) (w : World) : Prop :=
  ∀ (l : Nat) (J : List α → World → Prop) (W : World), Below w.heap.size w W → AbidesFrom W.heap.size J →
    (∀ pre x W1, J pre W1 → pre.length < N → YieldAt F (n - 1) P l (encs x) W1 fun e W' => e = .returned (.bool true) ∧ J (pre ++ [x]) W' ∧ Kp W1 W') →
    J [] W →
    CallsIn F n P g (#[.func (.yield l) #[] #[]] ++ lb) W fun e W' => (∃ v, e = .returned v) ∧ ∃ xs, S xs ∧ J xs W'
theorem rangeFunc_go {F : Fence} {n : Nat} {P : Program} {α : Type} {g : Operand} {ps : Array Tmp} {assign body : Code} {Q : Exit → Act → World → Prop} {a : Act} {w : World}
    (hro : F.round = none) (h1 : 1 ≤ n) {gf : Nat} {lb : Array Value} (hg : a.eval g = .func (.func gf) #[] lb) (hFg : F.fn gf) (eg : ∀ args w, (callFunc gf args).run P w = .ok (.enter gf args) w)
    {encs : α → Array Value} {Kp : World → World → Prop} {S : List α → Prop} {N : Nat} {w0 : World} (hseq : SeqGo F (n - 1) P gf lb encs Kp S N w0)
    (hKt : ∀ {A B C : World}, Kp A B → Kp B C → Kp A C) (hKb : ∀ (W : World) (l : Nat) (o o' : Obj), w.heap.size ≤ l → W.heap[l]? = some o → o.isCells = false → o.isWalk = false → Kp W (W.putObj l o')) (hb0 : Below w0.heap.size w0 w) (hps : ∀ x, (encs x).size = ps.size)
    (I : List α → World → Prop) (hI : OwnFrom w.heap.size I) (h0 : I [] w) (a₁ : α → Act)
    (hassign : ∀ (l : Nat) (x : α) (W : World) (K : Act → World → Prop), K (a₁ x) W →
      assign.wpIn (F.inRound l) (n - 1 - 1) P (Exit.then K (fun _ _ _ => False)) { tmps := (ps.zip (encs x)).foldl (fun t (p, v) => t.setIfInBounds p v) a.tmps, defers := [] } W)
    (hbody : ∀ (l : Nat) (pre : List α) (x : α) (W : World), I pre W → pre.length < N → body.wpIn (F.inRound l) (n - 1 - 1) P (ownPostK Kp I (fun _ _ _ => False) (pre ++ [x]) W) (a₁ x) W)
    (hdone : ∀ (D : Nat) (xs : List α) (W : World), w.heap.size ≤ D → S xs → I xs W → W.heap[D]? = some (.deferred (some [])) → Q .normal { a with defers := { target := .collected D, args := #[] } :: a.defers } W) :
    (Code.rangeFunc g ps assign body).wpIn F n P Q a w := by
  refine wpIn_rangeFunc ?_
  intro fn hfn
  rw [hro]
  obtain ⟨rec, hrec⟩ : ∃ rec : LoopState → Option Code → Loop, rec = fun st pe => { state := st, pending := pe, fn, tmps := a.tmps, params := ps, assign, body, defers := w.heap.size } := ⟨_, rfl⟩
  obtain ⟨W1, hW1⟩ : ∃ W1, (w.alloc (.deferred (some []))).alloc (.loop (rec .ready none)) = W1 := ⟨_, rfl⟩
  have hL1 : W1.heap[w.heap.size + 1]? = some (.loop (rec .ready none)) := by
    rw [← hW1]; have := World.alloc_heap_new (w.alloc (.deferred (some []))) (.loop (rec .ready none)); rwa [World.size_alloc] at this
  have hK1 : W1.heap[w.heap.size]? = some (.deferred (some [])) := by
    rw [← hW1]; exact (Below.heap_alloc _ _ _ (by simp)).trans (World.alloc_heap_new w _)
  have hI1 : I [] W1 := by rw [← hW1]; exact hI.alloc _ (hI.alloc _ h0)
  have hb1 : Below w0.heap.size w0 W1 := by
    rw [← hW1]; exact hb0.trans ((((Below.refl _ w).alloc (Nat.le_refl _) _).alloc (by simp) _).mono hb0.size)
  refine ⟨w.heap.size + 1, [{ target := .collected w.heap.size, args := #[] }], W1, { target := .fn (.func gf) lb, args := #[.func (.yield (w.heap.size + 1)) #[] #[]] }, W1, gf,
    #[.func (.yield (w.heap.size + 1)) #[] #[]] ++ lb, W1, ?_, ?_, ?_, ?_, fun _ => h1, ?_⟩
  · rw [← hW1, hrec]; exact run_enterLoop_outer _ _ _ _ _
  · simp only [resolve, hg]
    simp [go_sem]
  · intro f' hf'; simp [Target.leads] at hf'; subst hf'; exact hFg
  · simp [invoke, go_sem, eg]
  · have hnw : ∀ {A B : World} {row : Option Nat}, (∀ r, row = some r → W1.heap.size ≤ r ∧ ∃ o : Obj, A.heap[r]? = some o ∧ o.isWalk = true) → (∀ r, row = some r → w.heap.size ≤ r ∧ ∃ o : Obj, A.heap[r]? = some o ∧ o.isCells = false) :=
      fun hr r e => by obtain ⟨hB, o, ho, hw⟩ := hr r e; exact ⟨by rw [← hW1] at hB; simp at hB; omega, o, ho, Obj.not_cells_of_walk hw⟩
    refine (hseq (w.heap.size + 1)
      (fun pre W => I pre W ∧ W.heap[w.heap.size + 1]? = some (.loop (rec .ready none)) ∧ W.heap[w.heap.size]? = some (.deferred (some [])))
      W1 hb1
      (fun s A B row hs hg' hr => ⟨hI s A B row hs.1 hg' (hnw (B := B) hr), (grownBy_keeps hg' (fun r e => (hr r e).2) hs.2.1 rfl).trans hs.2.1, (grownBy_keeps hg' (fun r e => (hr r e).2) hs.2.2 rfl).trans hs.2.2⟩)
      ?_ ⟨hI1, hL1, hK1⟩).mono ?_
    · rintro pre x W ⟨hi, hl, hk⟩ hlen
      have hlt : w.heap.size + 1 < W.heap.size := (Array.getElem?_eq_some_iff.1 hl).1
      have hy := run_yield (P := P) (args := encs x) hl (by rw [hrec]; exact hps x)
      rw [hrec] at hy
      refine ⟨fn, _, assign, body, hy, roundIn_of_wpIn hfn (hassign _ x W _ ⟨_, run_beginRound hl (by rw [hrec]), ?_⟩)⟩
      have hl2 : (W.putObj (w.heap.size + 1) (.loop { rec .ready none with state := .busy })).heap[w.heap.size + 1]? = some (.loop { rec .ready none with state := .busy }) := World.putObj_heap_same hlt
      have hk2 : (W.putObj (w.heap.size + 1) (.loop { rec .ready none with state := .busy })).heap[w.heap.size]? = some (.deferred (some [])) := (World.putObj_heap_other (by omega)).trans hk
      have hw2 : Kp W (W.putObj (w.heap.size + 1) (.loop { rec .ready none with state := .busy })) := hKb _ _ _ _ (by omega) hl rfl rfl
      refine wpIn_mono (hbody _ pre x _ (hI.putObj _ hi (by omega) hl rfl) hlen) ?_
      have fin : ∀ (jump : Option Code) (W3 : World), KeepsOthers (W.putObj (w.heap.size + 1) (.loop { rec .ready none with state := .busy })) W3 →
          (Instr.endRound (w.heap.size + 1) jump).run P W3 = .ok (.bool jump.isNone) (W3.putObj (w.heap.size + 1) (.loop (rec (if jump.isNone then .ready else .done) jump))) ∧
          W3.heap[w.heap.size + 1]? = some (.loop { rec .ready none with state := .busy }) ∧
          (W3.putObj (w.heap.size + 1) (.loop (rec (if jump.isNone then .ready else .done) jump))).heap[w.heap.size + 1]? = some (.loop (rec (if jump.isNone then .ready else .done) jump)) ∧
          (W3.putObj (w.heap.size + 1) (.loop (rec (if jump.isNone then .ready else .done) jump))).heap[w.heap.size]? = some (.deferred (some [])) := fun jump W3 hk3 => by
        have hl3 := hk3.same _ _ hl2 rfl
        have := run_endRound (P := P) jump hl3
        rw [hrec] at this ⊢
        exact ⟨this, by rw [hrec] at hl3; exact hl3, World.putObj_heap_same (Array.getElem?_eq_some_iff.1 hl3).1, (World.putObj_heap_other (by omega)).trans (hk3.same _ _ hk2 rfl)⟩
      rintro e a3 W3 hp
      cases e with
      | normal =>
        obtain ⟨hk3, hkp3, hi3⟩ := hp
        obtain ⟨hr, hl3, hl4, hk4⟩ := fin none W3 hk3
        exact ⟨_, _, hr, ⟨rfl, ⟨hI.putObj _ hi3 (by omega) hl3 rfl, hl4, hk4⟩, hKt (hKt hw2 hkp3) (hKb _ _ _ _ (by omega) hl3 rfl rfl)⟩⟩
      | ret => exact hp.2.elim
      | exit id => exact hp.2.elim
      | goto t => exact hp.2.elim
      | panic ch => exact hp.elim
      | outgrown => exact hp.elim
    · rintro e W2 ⟨⟨v, rfl⟩, ⟨xs, hS, hi, hl, hk⟩⟩
      exact ⟨none, _, by have := run_endLoop (P := P) hl (by rw [hrec]; simp); rw [hrec] at this; exact this, hdone _ xs _ (Nat.le_refl _) hS (hI.putObj _ hi (by omega) hl rfl) ((World.putObj_heap_other (by omega)).trans hk)⟩
end Go.Proofs.Ytmgiabehooghcaa
