/- Glow: the walk of a law. -/
import Derived.RangeFuncNested
import Derived.RangeFuncBound
import Derived.RangeFuncCalls
import Derived.RangeFuncLeaves
import Derived.Shelf.Abstract
import Derived.Shelf.RegionOpen
import Derived.WalkKit
import Derived.OwnWalkIn
import Derived.TacticsInMore
import Derived.LoopNIn
import Derived.LoopIn
import Derived.Lib.Hide
import Derived.IntWalk
import Derived.Maps.AppendAt
import Derived.Test.YtigblagodlfedaaHand

import Derived.Laws.CopyOwn
import Derived.Deep.Slices
import Derived.SizedLaws
import Derived.DataReads
import Derived.Test.YtigblagodlfedaaM7
import Derived.Test.YtigblagodlfedaaKa
import Derived.Test.YtigblagodlfedaaLu
set_option linter.unusedVariables false
set_option linter.unusedSimpArgs false
namespace Go.Proofs.Ytigblagodlfedaa
open Go.RowKit Go.Shelf
attribute [local go_sem] Oper.semAt_some

open Pf (cellK cellL mayS spotV I64 U8 Gives movR totI totB ledgV)
/-! ### What the law holds while it is under way -/
structure Hq where
  sp : Sp3
  ck : Option (Nat × Nat × (Nat → Int) × (Nat → Int))
def Hq.hd (h : Hq) : Hd := ⟨h.sp, h.ck.map fun c => (c.1, c.2.2.1)⟩
def Hq.dd (h : Hq) : Hd := ⟨h.sp, h.ck.map fun c => (c.2.1, c.2.2.1)⟩
theorem moreS_dd (h : Hq) : moreS h.dd = moreS h.hd := by
  obtain ⟨sp, ck⟩ := h
  cases ck <;> rfl
theorem totS_dd : ∀ (hs : List Hq) (met : List Sp3) (s : Int), totS (hs.map Hq.dd) met s = totS (hs.map Hq.hd) met s
  | [], _, _ => rfl
  | h :: t, met, s => by
    have e : h.dd.sp = h.hd.sp := rfl
    simp only [List.map_cons, totS, moreS_dd, totS_dd t, e]
abbrev Ck3 := Nat × (Nat → Int) × (Nat → Int)
def Hq.inn (h : Hq) (cks : List Ck3) : Prop := okS h.sp ∧ match h.ck with
  | none => True
  | some (r1, r2, A, B) => Byt A ∧ (r1, A, B) ∈ cks ∧ (r2, A, B) ∈ cks
theorem Hq.inn_mono {h : Hq} {cks cks' : List Ck3} (hi : h.inn cks) (hs : ∀ c ∈ cks, c ∈ cks') : h.inn cks' := by
  obtain ⟨sp, ck⟩ := h
  refine ⟨hi.1, ?_⟩
  have h2 := hi.2
  cases ck with
  | none => trivial
  | some c => exact ⟨h2.1, hs _ h2.2.1, hs _ h2.2.2⟩
abbrev c4 (h : Hd) : List Value := [.int .i64 h.sp.1, .int .i64 h.sp.2.1, .int .i64 h.sp.2.2, .pointer h.ptr]
abbrev c3 (h : Hd) : List Value := [.int .i64 h.sp.1, .int .i64 h.sp.2.1, .int .i64 h.sp.2.2]
abbrev c1 (h : Hd) : List Value := [.pointer h.ptr]
theorem flat_get {f : Hd → List Value} {N : Nat} (hN : ∀ h, (f h).length = N) : ∀ {l : List Hd} {i j : Nat} {h : Hd}, l[i]? = some h → j < N → (l.flatMap f)[i * N + j]? = (f h)[j]?
  | [], i, j, h, hi, _ => by simp at hi
  | x :: l, 0, j, h, hi, hj => by
    simp only [List.getElem?_cons_zero, Option.some.injEq] at hi
    subst hi
    rw [List.flatMap_cons, Nat.zero_mul, Nat.zero_add, List.getElem?_append_left (by rw [hN]; exact hj)]
  | x :: l, i + 1, j, h, hi, hj => by
    rw [List.getElem?_cons_succ] at hi
    rw [List.flatMap_cons, List.getElem?_append_right (by rw [hN, Nat.succ_mul]; omega), hN, show (i + 1) * N + j - N = i * N + j by rw [Nat.succ_mul]; omega]
    exact flat_get hN hi hj
theorem row_own {w : World} {B e N n : Nat} {v : Value} {xs : List Value} (h : w.ownsRow B e N v n xs) : ∃ s g c, v = .slice s n c ∧ (0 < n → s = some ⟨g, 0, none⟩ ∧ g < w.heap.size) ∧ ∀ j, j < n * N → w.cell? ⟨g, j, none⟩ = xs[j]? := by
  rcases h.2 with ⟨rfl, rfl⟩ | ⟨g, cap, cur, rfl, _, hg, _, _, hsz, ht⟩
  · exact ⟨none, 0, 0, rfl, fun h => absurd h (by omega), fun j hj => absurd hj (by omega)⟩
  · refine ⟨_, g, cap, rfl, fun _ => ⟨rfl, (Array.getElem?_eq_some_iff.1 hg).1⟩, fun j hj => ?_⟩
    rw [← ht, List.getElem?_take_of_lt hj]
    simp [World.cell?, hg]
theorem ne_kind {w : World} {B e N n : Nat} {v : Value} {xs : List Value} (h : w.ownsRow B e N v n xs) {k e' : Nat} {c : Array Value} {fr : Nat × Nat} (ho : w.heap[k]? = some (.cells c e' fr)) (he : e' ≠ e) : v.ownBlock ≠ some k := by
  rcases h.2 with ⟨rfl, _⟩ | ⟨g, cap, cur, rfl, _, hg, _⟩
  · intro hv; cases hv
  · intro hv
    simp only [Value.ownBlock, Option.some.injEq] at hv
    subst hv
    rw [hg] at ho
    cases ho
    exact he rfl
theorem own_at {w : World} {B e N n : Nat} {v : Value} {xs : List Value} (h : w.ownsRow B e N v n xs) {k : Nat} (hk : v.ownBlock = some k) : (∃ c fr, w.heap[k]? = some (.cells c e fr)) ∧ B ≤ k := by
  rcases h.2 with ⟨rfl, _⟩ | ⟨g, cap, cur, rfl, hb, hg, _⟩
  · cases hk
  · simp only [Value.ownBlock, Option.some.injEq] at hk
    subst hk
    exact ⟨⟨_, _, hg⟩, hb⟩
theorem keep_row {w w' : World} {B e N n : Nat} {v : Value} {xs : List Value} (h : w.ownsRow B e N v n xs) (hk : ∀ k, v.ownBlock = some k → w'.heap[k]? = w.heap[k]?) : w'.ownsRow B e N v n xs := by
  refine ⟨h.1, h.2.imp id ?_⟩
  rintro ⟨g, cap, cur, rfl, e2, e3, e4⟩
  exact ⟨g, cap, cur, rfl, e2, (hk g rfl).trans e3, e4⟩
structure RS where
  v : Value
  n : Nat
  xs : List Value
structure LS (w0 : World) (bx : Nat) (lx : Array Value) (cks : List Ck3) (r5 r6 r7 : RS) (w : World) : Prop where
  bel : Below w0.heap.size w0 w
  box : w.heap[bx]? = some (.cells lx 23 (0, 0))
  o5 : w.ownsRow w0.heap.size 58 4 r5.v r5.n r5.xs
  o6 : w.ownsRow w0.heap.size 33 3 r6.v r6.n r6.xs
  o7 : w.ownsRow w0.heap.size 34 1 r7.v r7.n r7.xs
  ck : ∀ c ∈ cks, CkW w c.1 c.2.1 c.2.2
section
variable {w0 w w' : World} {bx : Nat} {lx : Array Value} {cks : List Ck3} {r5 r6 r7 : RS}
theorem LS.s : Stable (LS w0 bx lx cks r5 r6 r7) := fun w w' h hb =>
  ⟨belS _ _ h.bel hb, (hb.block _ (Array.getElem?_eq_some_iff.1 h.box).1).trans h.box, ownsRow_below h.o5 hb, ownsRow_below h.o6 hb, ownsRow_below h.o7 hb, fun c hc => (h.ck c hc).below hb⟩
theorem CkW.at {w : World} {r : Nat} {A B : Nat → Int} (h : CkW w r A B) : ∃ c fr, w.heap[r]? = some (.cells c 49 fr) := by
  obtain ⟨cs, h1, _⟩ := h
  exact ⟨_, _, h1⟩
theorem CkW.kept {w w' : World} {r : Nat} {A B : Nat → Int} (h : CkW w r A B) (hk : w'.heap[r]? = w.heap[r]?) : CkW w' r A B := by
  obtain ⟨cs, h1, h2⟩ := h
  exact ⟨cs, hk.trans h1, h2⟩
theorem grown_at {own : Option Nat} (hg : w.grownBy w' own) {k : Nat} {o : Obj} (hk : w.heap[k]? = some o) (hne : own ≠ some k) : w'.heap[k]? = w.heap[k]? := hg.block k (Array.getElem?_eq_some_iff.1 hk).1 (fun e => hne e.symm)
theorem LS.g5 (h : LS w0 bx lx cks r5 r6 r7 w) {v' : Value} {news : List Value} (ho : w'.ownsRow w0.heap.size 58 4 v' (r5.n + 1) (r5.xs ++ news)) (hg : w.grownBy w' r5.v.ownBlock) : LS w0 bx lx cks ⟨v', r5.n + 1, r5.xs ++ news⟩ r6 r7 w' where
  bel := h.bel.grown hg h.bel.size fun k hk => (own_at h.o5 hk).2
  box := (grown_at hg h.box (ne_kind h.o5 h.box (by decide))).trans h.box
  o5 := ho
  o6 := keep_row h.o6 fun k hk => by obtain ⟨⟨c, fr, hc⟩, _⟩ := own_at h.o6 hk; exact grown_at hg hc (ne_kind h.o5 hc (by decide))
  o7 := keep_row h.o7 fun k hk => by obtain ⟨⟨c, fr, hc⟩, _⟩ := own_at h.o7 hk; exact grown_at hg hc (ne_kind h.o5 hc (by decide))
  ck c hc := by obtain ⟨c', fr, hc'⟩ := (h.ck c hc).at; exact (h.ck c hc).kept (grown_at hg hc' (ne_kind h.o5 hc' (by decide)))
theorem LS.g6 (h : LS w0 bx lx cks r5 r6 r7 w) {v' : Value} {news : List Value} (ho : w'.ownsRow w0.heap.size 33 3 v' (r6.n + 1) (r6.xs ++ news)) (hg : w.grownBy w' r6.v.ownBlock) : LS w0 bx lx cks r5 ⟨v', r6.n + 1, r6.xs ++ news⟩ r7 w' where
  bel := h.bel.grown hg h.bel.size fun k hk => (own_at h.o6 hk).2
  box := (grown_at hg h.box (ne_kind h.o6 h.box (by decide))).trans h.box
  o6 := ho
  o5 := keep_row h.o5 fun k hk => by obtain ⟨⟨c, fr, hc⟩, _⟩ := own_at h.o5 hk; exact grown_at hg hc (ne_kind h.o6 hc (by decide))
  o7 := keep_row h.o7 fun k hk => by obtain ⟨⟨c, fr, hc⟩, _⟩ := own_at h.o7 hk; exact grown_at hg hc (ne_kind h.o6 hc (by decide))
  ck c hc := by obtain ⟨c', fr, hc'⟩ := (h.ck c hc).at; exact (h.ck c hc).kept (grown_at hg hc' (ne_kind h.o6 hc' (by decide)))
theorem LS.g7 (h : LS w0 bx lx cks r5 r6 r7 w) {v' : Value} {news : List Value} (ho : w'.ownsRow w0.heap.size 34 1 v' (r7.n + 1) (r7.xs ++ news)) (hg : w.grownBy w' r7.v.ownBlock) : LS w0 bx lx cks r5 r6 ⟨v', r7.n + 1, r7.xs ++ news⟩ w' where
  bel := h.bel.grown hg h.bel.size fun k hk => (own_at h.o7 hk).2
  box := (grown_at hg h.box (ne_kind h.o7 h.box (by decide))).trans h.box
  o7 := ho
  o5 := keep_row h.o5 fun k hk => by obtain ⟨⟨c, fr, hc⟩, _⟩ := own_at h.o5 hk; exact grown_at hg hc (ne_kind h.o7 hc (by decide))
  o6 := keep_row h.o6 fun k hk => by obtain ⟨⟨c, fr, hc⟩, _⟩ := own_at h.o6 hk; exact grown_at hg hc (ne_kind h.o7 hc (by decide))
  ck c hc := by obtain ⟨c', fr, hc'⟩ := (h.ck c hc).at; exact (h.ck c hc).kept (grown_at hg hc' (ne_kind h.o7 hc' (by decide)))
theorem LS.more (h : LS w0 bx lx cks r5 r6 r7 w) {r : Nat} {A B : Nat → Int} (hc : CkW w r A B) : LS w0 bx lx ((r, A, B) :: cks) r5 r6 r7 w :=
  ⟨h.bel, h.box, h.o5, h.o6, h.o7, fun c hm => by
    rcases List.mem_cons.1 hm with rfl | hm
    · exact hc
    · exact h.ck c hm⟩
/-- The box of the part that is under way. -/
structure HB (w0 : World) (hb : Nat) (hcs : Array Value) (r5 : RS) (w : World) : Prop where
  blk : w.heap[hb]? = some (.cells hcs 58 (0, 0))
  ge : w0.heap.size ≤ hb
  ne : r5.v.ownBlock ≠ some hb
theorem HB.s {hb : Nat} {hcs : Array Value} : Stable (HB w0 hb hcs r5) := fun w w' h hbl => ⟨(hbl.block _ (Array.getElem?_eq_some_iff.1 h.blk).1).trans h.blk, h.ge, h.ne⟩
theorem HB.new (h : LS w0 bx lx cks r5 r6 r7 w) (cs : Array Value) : HB w0 w.heap.size cs r5 (w.alloc (.cells cs 58)) :=
  ⟨World.alloc_heap_new w _, h.bel.size, fun e => by
    obtain ⟨⟨c, fr, hc⟩, _⟩ := own_at h.o5 e
    have := (Array.getElem?_eq_some_iff.1 hc).1
    omega⟩
theorem HB.set {hb : Nat} {hcs : Array Value} (h : LS w0 bx lx cks r5 r6 r7 w) (hh : HB w0 hb hcs r5 w) (j : Nat) (u : Value) : LS w0 bx lx cks r5 r6 r7 (w.setCell ⟨hb, j, none⟩ u) ∧ HB w0 hb (hcs.setIfInBounds j u) r5 (w.setCell ⟨hb, j, none⟩ u) := by
  have kp : ∀ k, k ≠ hb → (w.setCell ⟨hb, j, none⟩ u).heap[k]? = w.heap[k]? := fun k hk => Below.heap_setCell w ⟨hb, j, none⟩ u k hk
  have kt : ∀ {k e : Nat} {c : Array Value} {fr : Nat × Nat}, w.heap[k]? = some (.cells c e fr) → e ≠ 58 → k ≠ hb := fun {k e c fr} hc he hk => by
    subst hk
    rw [hh.blk] at hc
    cases hc
    exact he rfl
  refine ⟨⟨h.bel.setCell (p := ⟨hb, j, none⟩) hh.ge u, (kp bx (kt h.box (by decide))).trans h.box, keep_row h.o5 fun k hk => kp k fun e => hh.ne (e ▸ hk), keep_row h.o6 fun k hk => ?_, keep_row h.o7 fun k hk => ?_, fun c hc => ?_⟩, setCell_heap_same hh.blk u, hh.ge, hh.ne⟩
  · obtain ⟨⟨c, fr, hc⟩, _⟩ := own_at h.o6 hk; exact kp k (kt hc (by decide))
  · obtain ⟨⟨c, fr, hc⟩, _⟩ := own_at h.o7 hk; exact kp k (kt hc (by decide))
  · obtain ⟨c', fr, hc'⟩ := (h.ck c hc).at; exact (h.ck c hc).kept (kp _ (kt hc' (by decide)))
theorem HB.cell {hb j : Nat} {hcs : Array Value} {v : Value} (h : HB w0 hb hcs r5 w) (hv : hcs[j]? = some v) : w.cell? ⟨hb, j, none⟩ = some v := by simp [World.cell?, h.blk, hv]
theorem HB.free {hb j : Nat} {hcs : Array Value} (h : HB w0 hb hcs r5 w) : w.frozen? ⟨hb, j, none⟩ = false := by
  unfold World.frozen?
  rw [h.blk]
  rfl
theorem Hq.lies_hd {h : Hq} (hi : h.inn cks) (hL : LS w0 bx lx cks r5 r6 r7 w) : h.hd.lies w := by
  obtain ⟨sp, ck⟩ := h
  have h2 := hi.2
  cases ck with
  | none => trivial
  | some c => exact ⟨h2.1, _, hL.ck _ h2.2.1⟩
theorem Hq.lies_dd {h : Hq} (hi : h.inn cks) (hL : LS w0 bx lx cks r5 r6 r7 w) : h.dd.lies w := by
  obtain ⟨sp, ck⟩ := h
  have h2 := hi.2
  cases ck with
  | none => trivial
  | some c => exact ⟨h2.1, _, hL.ck _ h2.2.2⟩
end
theorem blk_cells {w : World} {g e : Nat} {l : List Value} (h : w.heap[g]? = some (.cells l.toArray e (0, 0))) : ∀ j u, l[j]? = some u → w.cell? ⟨g, j, none⟩ = some u := fun j u hu => by
  simp [World.cell?, h, hu]
abbrev R5 (v : Value) (hs : List Hq) : RS := ⟨v, hs.length, (hs.map Hq.hd).flatMap c4⟩
abbrev R6 (v : Value) (hs : List Hq) : RS := ⟨v, hs.length, (hs.map Hq.dd).flatMap c3⟩
abbrev R7 (v : Value) (hs : List Hq) : RS := ⟨v, hs.length, (hs.map Hq.dd).flatMap c1⟩
theorem R5_snoc (v : Value) (hs : List Hq) (h : Hq) : (⟨v, hs.length + 1, (hs.map Hq.hd).flatMap c4 ++ c4 h.hd⟩ : RS) = R5 v (hs ++ [h]) := by simp [R5]
theorem R6_snoc (v : Value) (hs : List Hq) (h : Hq) : (⟨v, hs.length + 1, (hs.map Hq.dd).flatMap c3 ++ c3 h.dd⟩ : RS) = R6 v (hs ++ [h]) := by simp [R6]
theorem R7_snoc (v : Value) (hs : List Hq) (h : Hq) : (⟨v, hs.length + 1, (hs.map Hq.dd).flatMap c1 ++ c1 h.dd⟩ : RS) = R7 v (hs ++ [h]) := by simp [R7]
theorem blkS' {g : Nat} {o : Obj} : Stable fun w => w.heap[g]? = some o := fun w w' h hb => (hb.block g (Array.getElem?_eq_some_iff.1 h).1).trans h
theorem Stable.alloc {G : World → Prop} (hG : Stable G) {w : World} (h : G w) (o : Obj) : G (w.alloc o) := hG _ _ h ((Below.refl _ _).alloc (Nat.le_refl _) _)
open Pf (cellK cellL mayS spotV I64 U8 Gives movR totI totB ledgV)
/-! ### What comes behind a part's chunks -/
section
variable {w0 : World} {bx : Nat} {lx : Array Value} {cks : List Ck3}
set_option maxHeartbeats 4000000 in
theorem rest5 {sa : Option Addr} {ga oa pc : Nat} {ps : List Pt} (hP : PtsIn w0 sa ga oa ps) {i : Nat} {p : Pt} (hp : ps[i]? = some p) (hi : i < ps.length) {hs : List Hq} (hl : hs.length = i) (h12 : i ≤ 12) {v5 v6 v7 : Value} {h : Hq} (hsp : h.sp = p.sp) (hin : h.inn cks) {hb : Nat} (n : Nat) (Q : Exit → Act → World → Prop) (a : Act) (w : World)
    (h0 : SG (sg ga oa ps.length pc bx v5 v6 v7 i ++ [(9, ptr hb), (10, .pointer h.dd.ptr)]) 190 (fun w => LS w0 bx lx cks (R5 v5 hs) (R6 v6 hs) (R7 v7 hs) w ∧ HB w0 hb #[.int .i64 p.sp.1, .int .i64 p.sp.2.1, .int .i64 p.sp.2.2, .pointer h.hd.ptr] (R5 v5 hs) w) a w)
    (hQ : ∀ v5 v6 v7 a w, SG (sg ga oa ps.length pc bx v5 v6 v7 i) 190 (LS w0 bx lx cks (R5 v5 (hs ++ [h])) (R6 v6 (hs ++ [h])) (R7 v7 (hs ++ [h]))) a w → Q .normal a w) :
    (Code.seq (regOf 18 C5) (.seq (regOf 19 C5) (.seq (regOf 20 C5) (.seq (regOf 21 C5) (.seq (regOf 22 C5) (.seq (regOf 23 C5) (.cond (.tmp 112) (.seq (regOf 24 C5) .ret) .skip))))))).wpIn Fence.wide n Try.prog Q a w := by
  have hck := hP.cells i p hp
  have cells : ∀ {w}, Below w0.heap.size w0 w → _ := fun {w} hb => (hP.below hb).cells i p hp
  have e4 : c4 h.hd = [.int .i64 p.sp.1, .int .i64 p.sp.2.1, .int .i64 p.sp.2.2, .pointer h.hd.ptr] := by rw [← hsp]; rfl
  have e3 : c3 h.dd = [.int .i64 p.sp.1, .int .i64 p.sp.2.1, .int .i64 p.sp.2.2] := by rw [← hsp]; rfl
  refine wpIn_seq (tt18 n ga oa ps.length pc bx v5 v6 v7 i hb h.dd.ptr h.hd.ptr p.sp w0.heap.size hs.length (by omega) ((hs.map Hq.hd).flatMap c4)
    (G1 := fun g w => (LS w0 bx lx cks (R5 v5 hs) (R6 v6 hs) (R7 v7 hs) w ∧ HB w0 hb #[.int .i64 p.sp.1, .int .i64 p.sp.2.1, .int .i64 p.sp.2.2, .pointer h.hd.ptr] (R5 v5 hs) w) ∧ w.heap[g]? = some (.cells [.int .i64 p.sp.1, .int .i64 p.sp.2.1, .int .i64 p.sp.2.2, .pointer h.hd.ptr].toArray 58 (0, 0)))
    (G2 := fun _ v w => LS w0 bx lx cks (R5 v (hs ++ [h])) (R6 v6 hs) (R7 v7 hs) w ∧ w.heap[hb]? = some (.cells #[.int .i64 p.sp.1, .int .i64 p.sp.2.1, .int .i64 p.sp.2.2, .pointer h.hd.ptr] 58 (0, 0)))
    (fun w hw => hw.2.cell rfl) (fun w hw => hw.2.cell rfl) (fun w hw => hw.2.cell rfl) (fun w hw => hw.2.cell rfl)
    (fun w hw => ⟨(LS.s.and HB.s).alloc hw _, World.alloc_heap_new w _⟩) (fun g w hw => hw.1.1.o5) (fun g w hw => hw.1.1.bel.size) (fun g w hw => blk_cells hw.2)
    (fun g w w' v' hw ho hg => ⟨by rw [← R5_snoc, e4]; exact hw.1.1.g5 ho hg, (grown_at hg hw.1.2.blk hw.1.2.ne).trans hw.1.2.blk⟩) _ a w h0 ?_)
  clear h0
  intro _ v5 a1 w1 h1
  refine wpIn_seq (tt19 n ga oa ps.length pc bx v5 v6 v7 i hb h.dd.ptr p.sp w0.heap.size hs.length (by omega) ((hs.map Hq.dd).flatMap c3) hi
    (G1 := fun g w => (LS w0 bx lx cks (R5 v5 (hs ++ [h])) (R6 v6 hs) (R7 v7 hs) w ∧ w.heap[hb]? = some (.cells #[.int .i64 p.sp.1, .int .i64 p.sp.2.1, .int .i64 p.sp.2.2, .pointer h.hd.ptr] 58 (0, 0))) ∧ w.heap[g]? = some (.cells [.int .i64 p.sp.1, .int .i64 p.sp.2.1, .int .i64 p.sp.2.2].toArray 33 (0, 0)))
    (G2 := fun _ v w => LS w0 bx lx cks (R5 v5 (hs ++ [h])) (R6 v (hs ++ [h])) (R7 v7 hs) w ∧ w.heap[hb]? = some (.cells #[.int .i64 p.sp.1, .int .i64 p.sp.2.1, .int .i64 p.sp.2.2, .pointer h.hd.ptr] 58 (0, 0)))
    (fun w hw => (cells hw.1.bel).1) (fun w hw => (cells hw.1.bel).2.1) (fun w hw => (cells hw.1.bel).2.2.1)
    (fun w hw => ⟨(LS.s.and blkS').alloc hw _, World.alloc_heap_new w _⟩) (fun g w hw => hw.1.1.o6) (fun g w hw => hw.1.1.bel.size) (fun g w hw => blk_cells hw.2)
    (fun g w w' v' hw ho hg => ⟨by rw [← R6_snoc, e3]; exact hw.1.1.g6 ho hg, (grown_at hg hw.1.2 (ne_kind hw.1.1.o6 hw.1.2 (by decide))).trans hw.1.2⟩) _ a1 w1 h1 ?_)
  clear h1
  intro _ v6 a2 w2 h2
  refine wpIn_seq (tt20 n ga oa ps.length pc bx v5 v6 v7 i hb h.dd.ptr w0.heap.size hs.length (by omega) ((hs.map Hq.dd).flatMap c1)
    (G1 := fun g w => (LS w0 bx lx cks (R5 v5 (hs ++ [h])) (R6 v6 (hs ++ [h])) (R7 v7 hs) w ∧ w.heap[hb]? = some (.cells #[.int .i64 p.sp.1, .int .i64 p.sp.2.1, .int .i64 p.sp.2.2, .pointer h.hd.ptr] 58 (0, 0))) ∧ w.heap[g]? = some (.cells [.pointer h.dd.ptr].toArray 34 (0, 0)))
    (G2 := fun _ v w => LS w0 bx lx cks (R5 v5 (hs ++ [h])) (R6 v6 (hs ++ [h])) (R7 v (hs ++ [h])) w ∧ w.heap[hb]? = some (.cells #[.int .i64 p.sp.1, .int .i64 p.sp.2.1, .int .i64 p.sp.2.2, .pointer h.hd.ptr] 58 (0, 0)))
    (fun w hw => ⟨(LS.s.and blkS').alloc hw _, World.alloc_heap_new w _⟩) (fun g w hw => hw.1.1.o7) (fun g w hw => hw.1.1.bel.size) (fun g w hw => blk_cells hw.2)
    (fun g w w' v' hw ho hg => ⟨by rw [← R7_snoc]; exact hw.1.1.g7 ho hg, (grown_at hg hw.1.2 (ne_kind hw.1.1.o7 hw.1.2 (by decide))).trans hw.1.2⟩) _ a2 w2 h2 ?_)
  clear h2
  intro _ v7 a3 w3 h3
  have cell : ∀ {w : World} {j : Nat} {v : Value}, w.heap[hb]? = some (.cells #[.int .i64 p.sp.1, .int .i64 p.sp.2.1, .int .i64 p.sp.2.2, .pointer h.hd.ptr] 58 (0, 0)) → (#[.int .i64 p.sp.1, .int .i64 p.sp.2.1, .int .i64 p.sp.2.2, .pointer h.hd.ptr] : Array Value)[j]? = some v → w.cell? ⟨hb, j, none⟩ = some v := fun hw hv => by simp [World.cell?, hw, hv]
  refine wpIn_seq (tt21 n (LS.s.and blkS') ga oa ps.length pc bx v5 v6 v7 i hb h.dd.ptr h.hd.ptr p.sp (moreS h.hd).1 (moreS h.hd).2
    (fun w hw => cell hw.2 rfl) (fun w hw => cell hw.2 rfl) (fun w hw => cell hw.2 rfl) (fun w hw => cell hw.2 rfl) (fun m w hw => by
      have := more_all (h := h.hd) hin.1 (Hq.lies_hd hin hw.1) m
      rw [show h.hd.sp = p.sp from hsp] at this
      exact this) _ a3 w3 h3 ?_)
  clear h3
  intro a4 w4 h4
  refine wpIn_seq (tt22 n (LS.s.and blkS') ga oa ps.length pc bx v5 v6 v7 i h.dd.ptr (moreS h.hd).1 (moreS h.hd).2 p.sp hi
    (fun w hw => (cells hw.1.bel).1) (fun w hw => (cells hw.1.bel).2.1) (fun w hw => (cells hw.1.bel).2.2.1) (fun m w hw => by
      have := rmore_all (h := h.dd) hin.1 (Hq.lies_dd hin hw.1) m
      rw [show h.dd.sp = p.sp from hsp, moreS_dd] at this
      exact this) _ a4 w4 h4 ?_)
  clear h4
  intro a5 w5 h5
  refine wpIn_seq (tt23 n w5 ga oa ps.length pc bx v5 v6 v7 i (moreS h.hd).1 (moreS h.hd).2 _ a5 h5.sr ?_)
  intro a6 h6
  refine wpIn_cond (t := false) (by rw [eval_tmp]; exact h6.g 112 rfl) (wpIn_skip ?_)
  exact hQ v5 v6 v7 a6 w5 ((h6.sub (by intro p hp; simp only [List.mem_append]; exact .inl hp)).sg h5.wp.1)
end
open Pf (cellK cellL mayS spotV I64 U8 Gives movR totI totB ledgV tellV)
theorem c8 {a b c d : Int} (ha : I64 a) (hb : I64 b) (hc : I64 c) (hd : I64 d) : Gives 8 #[ledgV a b c d] (tellV a b c d) := fun n w => callsIn_wide.2 (Lt.c8 [a, b, c, d] (.cons ha (.cons hb (.cons hc (.cons hd .nil)))) w)
theorem ret5 {w w0 : World} {a : Act} (hs : SR [(4, .bool true)] 190 [] w a w) (hb : Below w0.heap.size w0 w) : bodyPost Try.prog Try.f5 (fun x w' => x = .returned (.bool true) ∧ Below w0.heap.size w0 w') .ret a w :=
  ⟨hs.defers, _, results_tmp (t := 4) rfl _ _ _, by rw [Array.getD_eq_getD_getElem?, hs.g 4 rfl], hb⟩
theorem C5_eq : C5 = .seq (regOf 0 C5) (.seq (.seq (regOf 1 C5) (.cond (.tmp 24) (.seq (regOf 2 C5) .ret) .skip)) (.seq (regOf 3 C5) (.seq (regOf 4 C5) (.seq (regOf 5 C5) (.seq (.seq (regOf 6 C5) (.block 0 (.loop (.seq (.seq (regOf 7 C5) (.cond (.tmp 29) .skip (.exit 0))) (.seq (.block 1 (.seq (.seq (regOf 9 C5) (.cond (.tmp 38) (.seq (regOf 10 C5) .ret) .skip)) (.seq (regOf 11 C5) (.seq (regOf 12 C5) (.seq (.seq (regOf 13 C5) (.cond (.tmp 51) (.seq (regOf 14 C5) (.seq (regOf 15 C5) (.seq (regOf 16 C5) (.cond (.tmp 70) (.seq (regOf 17 C5) .ret) .skip)))) .skip)) (.seq (regOf 18 C5) (.seq (regOf 19 C5) (.seq (regOf 20 C5) (.seq (regOf 21 C5) (.seq (regOf 22 C5) (.seq (regOf 23 C5) (.cond (.tmp 112) (.seq (regOf 24 C5) .ret) .skip)))))))))))) (regOf 8 C5)))))) (.seq (regOf 25 C5) (.seq (regOf 26 C5) (.seq (regOf 27 C5) (.seq (.seq (regOf 28 C5) (.cond (.tmp 152) (.seq (regOf 29 C5) .ret) .skip)) (.seq (.seq (regOf 30 C5) (.block 2 (.loop (.seq (.seq (regOf 31 C5) (.cond (.tmp 156) .skip (.exit 2))) (.seq (.block 3 (.seq (regOf 33 C5) (.cond (.tmp 188) (.seq (regOf 34 C5) .ret) .skip))) (regOf 32 C5)))))) (.seq (regOf 35 C5) .ret))))))))))) := by kernel_rfl
/-- The second loop: each spot and chunk is as it was. -/
theorem stay5 {w0 w4 : World} {ps : List Pt} {sa : Option Addr} {pc bx : Nat} {hs : List Hq} {cks : List Ck3} (hb0 : Below w0.heap.size w0 w4) (hlen : hs.length = ps.length) (h12 : ps.length ≤ 12)
    (hin : ∀ h ∈ hs, h.inn cks) (hck : ∀ c ∈ cks, CkW w4 c.1 c.2.1 c.2.2) {v5 v6 v7 : Value} {s5 s6 s7 : Option Addr} {g5 g6 g7 k5 k6 k7 : Nat} (e5 : v5 = .slice s5 ps.length k5) (e6 : v6 = .slice s6 ps.length k6) (e7 : v7 = .slice s7 ps.length k7)
    (hs5 : 0 < ps.length → s5 = some ⟨g5, 0, none⟩) (hs6 : 0 < ps.length → s6 = some ⟨g6, 0, none⟩ ∧ s7 = some ⟨g7, 0, none⟩) (hR : Row w4 g5 (hs.map Hq.hd)) (hR3 : Row3 w4 g6 g7 (hs.map Hq.dd)) (n : Nat) (a : Act)
    (h0 : SG (s4 sa ps.length pc bx v5 v6 v7) 190 (Below w4.heap.size w4) a w4) :
    (Code.seq (.seq (regOf 30 C5) (.block 2 (.loop (.seq (.seq (regOf 31 C5) (.cond (.tmp 156) .skip (.exit 2))) (.seq (.block 3 (.seq (regOf 33 C5) (.cond (.tmp 188) (.seq (regOf 34 C5) .ret) .skip))) (regOf 32 C5)))))) (.seq (regOf 35 C5) .ret)).wpIn Fence.wide n Try.prog (bodyPost Try.prog Try.f5 fun x w' => x = .returned (.bool true) ∧ Below w0.heap.size w0 w') a w4 := by
  refine wpIn_seq (wpIn_seq (tu30 n w4 sa ps.length pc bx v5 v6 v7 _ a h0.sr ?_))
  intro a1 h1
  refine wpIn_block (wpIn_loop (fun a w' => ∃ i, i ≤ ps.length ∧ SG (s4 sa ps.length pc bx v5 v6 v7 ++ [(21, .int .i64 (i : Nat))]) 190 (Below w4.heap.size w4) a w') (fun a _ => ps.length - slotN 21 a) ⟨0, Nat.zero_le _, h1.sg (Below.refl _ _)⟩ ?_)
  rintro a w5 ⟨i, hi, ha⟩
  have e21 := ha.slot (t := 21) (v := i) (k := .i64) (by simp)
  have hG := ha.wp
  refine wpIn_seq (wpIn_seq (tu31 n w5 sa ps.length pc bx v5 v6 v7 i _ a ha.sr ?_))
  intro a6 h6
  by_cases hlt : i < ps.length
  · refine wpIn_cond (t := true) (by rw [eval_tmp, h6.g 156 rfl, decide_eq_true (by omega)]) (wpIn_skip (wpIn_seq (wpIn_block ?_)))
    obtain rfl := hs5 (by omega)
    obtain ⟨rfl, rfl⟩ := hs6 (by omega)
    subst e5
    subst e6
    subst e7
    obtain ⟨h, hh⟩ : ∃ h, hs[i]? = some h := ⟨hs[i]'(by omega), List.getElem?_eq_getElem (by omega)⟩
    have hmem : h ∈ hs := List.mem_of_getElem? hh
    have hhd : (hs.map Hq.hd)[i]? = some h.hd := by rw [List.getElem?_map, hh]; rfl
    have hdd : (hs.map Hq.dd)[i]? = some h.dd := by rw [List.getElem?_map, hh]; rfl
    have hi2 := hin h hmem
    have rA : ∀ {w}, Below w4.heap.size w4 w → _ := fun {w} hw => (hR.below hw).cells i h.hd hhd
    have rB : ∀ {w}, Below w4.heap.size w4 w → _ := fun {w} hw => (hR3.below hw).cells i h.dd hdd
    have fin : ∀ a w6, SG (s4 sa ps.length pc bx (.slice (some ⟨g5, 0, none⟩) ps.length k5) (.slice (some ⟨g6, 0, none⟩) ps.length k6) (.slice (some ⟨g7, 0, none⟩) ps.length k7) ++ [(21, .int .i64 (i : Nat))]) 190 (Below w4.heap.size w4) a w6 → ∀ Q : Exit → Act → World → Prop, (∀ a w', (∃ i, i ≤ ps.length ∧ SG (s4 sa ps.length pc bx (.slice (some ⟨g5, 0, none⟩) ps.length k5) (.slice (some ⟨g6, 0, none⟩) ps.length k6) (.slice (some ⟨g7, 0, none⟩) ps.length k7) ++ [(21, .int .i64 (i : Nat))]) 190 (Below w4.heap.size w4) a w') → ps.length - slotN 21 a < ps.length - i → Q .normal a w') → (regOf 32 C5).wpIn Fence.wide n Try.prog Q a w6 := by
      intro a w6 h Q hQ
      have hG6 := h.wp
      refine tu32 n w6 sa ps.length pc bx _ _ _ i hlt (by omega) _ a h.sr ?_
      intro a9 h9
      have h9 : SG (s4 sa ps.length pc bx (.slice (some ⟨g5, 0, none⟩) ps.length k5) (.slice (some ⟨g6, 0, none⟩) ps.length k6) (.slice (some ⟨g7, 0, none⟩) ps.length k7) ++ [(21, .int .i64 (i + 1 : Nat))]) 190 (Below w4.heap.size w4) a9 w6 := h9.sg hG6
      exact hQ a9 w6 ⟨i + 1, hlt, h9⟩ (by rw [h9.slot (t := 21) (v := i + 1) (k := .i64) (by simp)]; omega)
    have h6' : SG (s6 sa ps.length pc bx g5 g6 g7 k5 k6 k7 i) 190 (Below w4.heap.size w4) a6 w5 := (h6.sub (by intro p hp; simp only [s4, List.cons_append, List.nil_append, List.mem_cons, List.not_mem_nil, or_false] at hp ⊢; rcases hp with h | h | h | h | h | h <;> simp [h])).sg hG
    cases hc : h.ck with
    | none =>
      have ep : h.dd.ptr = none := by unfold Hd.ptr Hq.dd; rw [hc]; rfl
      refine wpIn_seq (tu33n n belS sa ps.length pc bx g5 g6 g7 k5 k6 k7 i h.sp hi2.1 hlt (fun w hw => (rA hw).1) (fun w hw => (rA hw).2.1) (fun w hw => (rA hw).2.2.1) (fun w hw => (rB hw).1) (fun w hw => (rB hw).2.1) (fun w hw => (rB hw).2.2.1) (fun w hw => by have := (rB hw).2.2.2; rw [ep] at this; exact this) _ a6 w5 h6' ?_)
      intro a7 w7 h7
      refine wpIn_cond (t := false) (by rw [eval_tmp]; exact h7.g 188 rfl) (wpIn_skip ?_)
      show (regOf 32 C5).wpIn _ _ _ _ _ _
      refine fin a7 w7 (h7.sub (by intro p hp; simp only [s4, s6, List.cons_append, List.nil_append, List.mem_cons, List.not_mem_nil, or_false] at hp ⊢; rcases hp with h | h | h | h | h | h <;> simp [h])) _ ?_
      intro a9 w9 h9 h10
      exact ⟨h9, by rw [e21]; exact h10⟩
    | some c =>
      obtain ⟨r1, r2, A, B⟩ := c
      have ed : h.dd.ptr = some ⟨r2, 0, none⟩ := by unfold Hd.ptr Hq.dd; rw [hc]; rfl
      have eh : h.hd.ptr = some ⟨r1, 0, none⟩ := by unfold Hd.ptr Hq.hd; rw [hc]; rfl
      have hi3 := hi2.2
      rw [hc] at hi3
      refine wpIn_seq (tu33p n belS sa ps.length pc bx g5 g6 g7 k5 k6 k7 i h.sp r1 r2 hi2.1 hlt (fun w hw => (rA hw).1) (fun w hw => (rA hw).2.1) (fun w hw => (rA hw).2.2.1) (fun w hw => (rB hw).1) (fun w hw => (rB hw).2.1) (fun w hw => (rB hw).2.2.1) (fun w hw => by have := (rB hw).2.2.2; rw [ed] at this; exact this) (fun w hw => by have := (rA hw).2.2.2; rw [eh] at this; exact this)
        (fun m w hw => same_in ((hck _ hi3.2.1).below hw) ((hck _ hi3.2.2).below hw) m) _ a6 w5 h6' ?_)
      intro a7 w7 h7
      refine wpIn_cond (t := false) (by rw [eval_tmp]; exact h7.g 188 rfl) (wpIn_skip ?_)
      show (regOf 32 C5).wpIn _ _ _ _ _ _
      refine fin a7 w7 (h7.sub (by intro p hp; simp only [s4, s6, List.cons_append, List.nil_append, List.mem_cons, List.not_mem_nil, or_false] at hp ⊢; rcases hp with h | h | h | h | h | h <;> simp [h])) _ ?_
      intro a9 w9 h9 h10
      exact ⟨h9, by rw [e21]; exact h10⟩
  · refine wpIn_cond (t := false) (by rw [eval_tmp, h6.g 156 rfl, decide_eq_false (by omega)]) (wpIn_exit ?_)
    show (Code.seq (regOf 35 C5) .ret).wpIn _ _ _ _ _ _
    refine wpIn_seq (tu35 n belS (fun m w _ => awake_in m w) _ a6 w5 ((h6.sub (by simp)).sg hG) ?_)
    intro a7 w7 h7
    exact wpIn_ret (ret5 h7.sr (belS _ _ hb0 h7.wp))
/-- What the law does of one part. -/
theorem part5 {w0 : World} {bx : Nat} {lx : Array Value} {sa : Option Addr} {ga oa pc : Nat} {ps : List Pt} (hP : PtsIn w0 sa ga oa ps) (h12 : ps.length ≤ 12) {i : Nat} (hi : i < ps.length) {hs : List Hq} {cks : List Ck3} (hl : hs.length = i) (hin : ∀ h ∈ hs, h.inn cks) {v5 v6 v7 : Value} (n : Nat) (Q : Exit → Act → World → Prop) (a : Act) (w : World)
    (h0 : SG (sg ga oa ps.length pc bx v5 v6 v7 i) 190 (LS w0 bx lx cks (R5 v5 hs) (R6 v6 hs) (R7 v7 hs)) a w)
    (hret : ∀ a w, bodyPost Try.prog Try.f5 (fun x w' => x = .returned (.bool true) ∧ Below w0.heap.size w0 w') .ret a w → Q .ret a w)
    (hQ : ∀ h cks v5 v6 v7 a w, (∀ h' ∈ hs ++ [h], h'.inn cks) → SG (sg ga oa ps.length pc bx v5 v6 v7 i) 190 (LS w0 bx lx cks (R5 v5 (hs ++ [h])) (R6 v6 (hs ++ [h])) (R7 v7 (hs ++ [h]))) a w → Q .normal a w) :
    (Code.seq (.seq (regOf 9 C5) (.cond (.tmp 38) (.seq (regOf 10 C5) .ret) .skip)) (.seq (regOf 11 C5) (.seq (regOf 12 C5) (.seq (.seq (regOf 13 C5) (.cond (.tmp 51) (.seq (regOf 14 C5) (.seq (regOf 15 C5) (.seq (regOf 16 C5) (.cond (.tmp 70) (.seq (regOf 17 C5) .ret) .skip)))) .skip)) (.seq (regOf 18 C5) (.seq (regOf 19 C5) (.seq (regOf 20 C5) (.seq (regOf 21 C5) (.seq (regOf 22 C5) (.seq (regOf 23 C5) (.cond (.tmp 112) (.seq (regOf 24 C5) .ret) .skip))))))))))).wpIn Fence.wide n Try.prog Q a w := by
  obtain ⟨p, hp⟩ : ∃ p, ps[i]? = some p := ⟨ps[i], List.getElem?_eq_getElem hi⟩
  have hpm : p ∈ ps := List.mem_of_getElem? hp
  have hG := h0.wp
  have cells : ∀ {w}, Below w0.heap.size w0 w → _ := fun {w} hb => (hP.below hb).cells i p hp
  obtain ⟨k0, k1, k2, k3, k4⟩ := cells hG.bel
  refine wpIn_seq (wpIn_seq (tt9 n w ga oa ps.length pc bx v5 v6 v7 i p.se p.es.length p.ec hi k3 _ a h0.sr ?_))
  intro a1 h1
  by_cases h200 : 200 < p.es.length
  · refine wpIn_cond (t := true) (by rw [eval_tmp, h1.g 38 rfl, decide_eq_true (by omega)]) (wpIn_seq ?_)
    refine tt10 n belS (fun m w _ => awake_in m w) _ a1 w ((h1.sub (by simp)).sg (Below.refl w.heap.size w)) ?_
    intro a7 w7 h7
    exact wpIn_ret (hret _ _ (ret5 h7.sr (belS _ _ hG.bel h7.wp)))
  refine wpIn_cond (t := false) (by rw [eval_tmp, h1.g 38 rfl, decide_eq_false (by omega)]) (wpIn_skip ?_)
  refine wpIn_seq (tt11 n w ga oa ps.length pc bx v5 v6 v7 i p.sp hi k0 k1 k2 _ a1 (h1.sub (by intro p hp; simp only [List.mem_append]; exact .inl hp)) ?_)
  intro a2 h2
  have hL2 := LS.s.alloc hG (.cells #[.int .i64 p.sp.1, .int .i64 p.sp.2.1, .int .i64 p.sp.2.2, .pointer none] 58)
  have hB2 := HB.new hG #[.int .i64 p.sp.1, .int .i64 p.sp.2.1, .int .i64 p.sp.2.2, .pointer none]
  obtain ⟨hb, hhb⟩ : ∃ hb, hb = w.heap.size := ⟨_, rfl⟩
  obtain ⟨w2, hw2⟩ : ∃ w2, w2 = w.alloc (.cells #[.int .i64 p.sp.1, .int .i64 p.sp.2.1, .int .i64 p.sp.2.2, .pointer none] 58) := ⟨_, rfl⟩
  rw [← hw2] at h2 hL2 hB2 ⊢
  rw [← hhb] at h2 hB2
  refine wpIn_seq (tt12 n w2 ga oa ps.length pc bx v5 v6 v7 i hb _ a2 h2 ?_)
  intro a3 h3
  refine wpIn_seq (wpIn_seq (tt13 n w2 ga oa ps.length pc bx v5 v6 v7 i hb p.nil hi (cells hL2.bel).2.2.2.2 _ a3 h3 ?_))
  intro a4 h4
  have hpok := hP.ok p hpm
  have app : ∀ {h : Hq} {cks' : List Ck3}, h.inn cks' → (∀ c ∈ cks, c ∈ cks') → ∀ h' ∈ hs ++ [h], h'.inn cks' := fun {h cks'} hh hsub h' hm => by
    rcases List.mem_append.1 hm with hm | hm
    · exact Hq.inn_mono (hin h' hm) hsub
    · rw [List.mem_singleton.1 hm]; exact hh
  cases hnil : p.nil with
  | true =>
    refine wpIn_cond (t := false) (by rw [eval_tmp, h4.g 51 rfl, hnil]; rfl) (wpIn_skip ?_)
    have hi1 : (⟨p.sp, none⟩ : Hq).inn cks := ⟨hpok.1, trivial⟩
    have h4' : SR (sg ga oa ps.length pc bx v5 v6 v7 i ++ [(9, ptr hb), (10, .pointer none)]) 190 [] w2 a4 w2 := h4.sub (by intro p hp; simp only [List.mem_append, List.mem_cons, List.not_mem_nil, or_false] at hp ⊢; rcases hp with h | h | h <;> simp [h])
    exact rest5 hP hp hi hl (by omega) (h := ⟨p.sp, none⟩) rfl hi1 (hb := hb) n Q a4 w2 (h4'.sg ⟨hL2, hB2⟩)
      (fun v5 v6 v7 a w hh => hQ _ cks v5 v6 v7 a w (app hi1 fun c hc => hc) hh)
  | false =>
    refine wpIn_cond (t := true) (by rw [eval_tmp, h4.g 51 rfl, hnil]; rfl) ?_
    have of : ∀ {G : World → Prop}, Stable G → (∀ w, G w → Below w0.heap.size w0 w) → ∀ (m : Nat) (w : World), G w → CallsIn Fence.wide m Try.prog 12 #[.slice p.se p.es.length p.ec, .slice none 0 0] w fun e w' => ∃ r, e = .returned (ptr r) ∧ G w' ∧ CkW w' r (ofA p.es fun _ => 0) (ofB p.es fun _ => 0) := fun hS hB m w hw =>
      (of_in (hpok.2.below (hB w hw)) (by omega) m).mono (by
        rintro e w3 ⟨r, rfl, hb1, _, hb2⟩
        exact ⟨r, rfl, hS _ _ hw hb1, hb2⟩)
    have hbyt : Byt (ofA p.es fun _ => 0) := byt_ofA hpok.2.ok byt_zero
    refine wpIn_seq (tt14 n (G := fun w => LS w0 bx lx cks (R5 v5 hs) (R6 v6 hs) (R7 v7 hs) w ∧ HB w0 hb #[.int .i64 p.sp.1, .int .i64 p.sp.2.1, .int .i64 p.sp.2.2, .pointer none] (R5 v5 hs) w) ga oa ps.length pc bx v5 v6 v7 i hb p.se p.es.length p.ec hi
      (G1 := fun r1 w => (LS w0 bx lx cks (R5 v5 hs) (R6 v6 hs) (R7 v7 hs) w ∧ HB w0 hb #[.int .i64 p.sp.1, .int .i64 p.sp.2.1, .int .i64 p.sp.2.2, .pointer none] (R5 v5 hs) w) ∧ CkW w r1 (ofA p.es fun _ => 0) (ofB p.es fun _ => 0))
      (G2 := fun r1 w => LS w0 bx lx ((r1, ofA p.es fun _ => 0, ofB p.es fun _ => 0) :: cks) (R5 v5 hs) (R6 v6 hs) (R7 v7 hs) w ∧ HB w0 hb #[.int .i64 p.sp.1, .int .i64 p.sp.2.1, .int .i64 p.sp.2.2, .pointer (some ⟨r1, 0, none⟩)] (R5 v5 hs) w)
      (fun w hw => (cells hw.1.bel).2.2.2.1) (fun m w hw => of (LS.s.and HB.s) (fun w hw => hw.1.bel) m w hw) (fun r1 w hw => ⟨_, hw.1.2.cell rfl⟩) (fun r1 w hw => hw.1.2.free)
      (fun r1 w hw => HB.set (hw.1.1.more hw.2) hw.1.2 3 (.pointer (some ⟨r1, 0, none⟩))) _ a4 w2 ((h4.sub (by intro p hp; simp only [List.mem_append, List.mem_cons, List.not_mem_nil, or_false] at hp ⊢; rcases hp with h | h <;> simp [h])).sg ⟨hL2, hB2⟩) ?_)
    intro r1 a5 w5 h5
    refine wpIn_seq (tt15 n ga oa ps.length pc bx v5 v6 v7 i hb p.se p.es.length p.ec hi
      (G1 := fun r2 w => LS w0 bx lx ((r2, ofA p.es fun _ => 0, ofB p.es fun _ => 0) :: (r1, ofA p.es fun _ => 0, ofB p.es fun _ => 0) :: cks) (R5 v5 hs) (R6 v6 hs) (R7 v7 hs) w ∧ HB w0 hb #[.int .i64 p.sp.1, .int .i64 p.sp.2.1, .int .i64 p.sp.2.2, .pointer (some ⟨r1, 0, none⟩)] (R5 v5 hs) w)
      (fun w hw => (cells hw.1.bel).2.2.2.1) (fun m w hw => (of (LS.s.and HB.s) (fun w hw => hw.1.bel) m w hw).mono (by
        rintro e w3 ⟨r, rfl, hb1, hb2⟩
        exact ⟨r, rfl, hb1.1.more hb2, hb1.2⟩)) _ a5 w5 h5 ?_)
    intro r2 a6 w6 h6
    refine wpIn_seq (tt16 n ga oa ps.length pc bx v5 v6 v7 i hb r1 r2 (kdC (ofA p.es fun _ => 0) 4096) (fun j => by have := kdC_le (ofA p.es fun _ => 0) j 4096; omega) (LS.s.and HB.s) (fun w hw => hw.2.cell rfl)
      (fun m w hw => kinds_in hbyt m w (hw.1.ck _ (List.mem_cons_of_mem _ List.mem_cons_self))) (fun m w hw => rkinds_in hbyt m w (hw.1.ck _ List.mem_cons_self)) _ a6 w6 h6 ?_)
    intro a7 w7 h7
    have hG7 := h7.wp
    refine wpIn_cond (t := false) (by rw [eval_tmp]; exact h7.g 70 rfl) (wpIn_skip ?_)
    have hi1 : (⟨p.sp, some (r1, r2, ofA p.es fun _ => 0, ofB p.es fun _ => 0)⟩ : Hq).inn ((r2, ofA p.es fun _ => 0, ofB p.es fun _ => 0) :: (r1, ofA p.es fun _ => 0, ofB p.es fun _ => 0) :: cks) := ⟨hpok.1, hbyt, List.mem_cons_of_mem _ List.mem_cons_self, List.mem_cons_self⟩
    have h7' : SR (sg ga oa ps.length pc bx v5 v6 v7 i ++ [(9, ptr hb), (10, ptr r2)]) 190 [] w7 a7 w7 := h7.sr.sub (by intro p hp; simp only [List.mem_append, List.mem_cons, List.not_mem_nil, or_false] at hp ⊢; rcases hp with h | h | h <;> simp [h])
    exact rest5 hP hp hi hl (by omega) (h := ⟨p.sp, some (r1, r2, ofA p.es fun _ => 0, ofB p.es fun _ => 0)⟩) rfl hi1 (hb := hb) n Q a7 w7 (h7'.sg hG7)
      (fun v5 v6 v7 a w hh => hQ _ _ v5 v6 v7 a w (app hi1 fun c hc => List.mem_cons_of_mem _ (List.mem_cons_of_mem _ hc)) hh)
theorem row_hd {w : World} {hs : List Hq} {g : Nat} (hg : 0 < hs.length → g < w.heap.size) (hc : ∀ j, j < hs.length * 4 → w.cell? ⟨g, j, none⟩ = ((hs.map Hq.hd).flatMap c4)[j]?) (hok : ∀ h ∈ hs, okS h.sp ∧ h.hd.lies w) : Row w g (hs.map Hq.hd) where
  cells i h hi := by
    have hlt : i < hs.length := by have := (List.getElem?_eq_some_iff.1 hi).1; rwa [List.length_map] at this
    have f := fun j (hj : j < 4) => (hc (i * 4 + j) (by omega)).trans (flat_get (f := c4) (N := 4) (fun _ => rfl) hi hj)
    exact ⟨f 0 (by omega), f 1 (by omega), f 2 (by omega), f 3 (by omega)⟩
  ok h hm := by
    obtain ⟨q, hq, rfl⟩ := List.mem_map.1 hm
    exact hok q hq
  lt hl := hg (by rwa [List.length_map] at hl)
theorem row_dd {w : World} {hs : List Hq} {g6 g7 : Nat} (hg : 0 < hs.length → g6 < w.heap.size ∧ g7 < w.heap.size) (hc : ∀ j, j < hs.length * 3 → w.cell? ⟨g6, j, none⟩ = ((hs.map Hq.dd).flatMap c3)[j]?) (hc' : ∀ j, j < hs.length * 1 → w.cell? ⟨g7, j, none⟩ = ((hs.map Hq.dd).flatMap c1)[j]?) (hok : ∀ h ∈ hs, okS h.sp ∧ h.dd.lies w) : Row3 w g6 g7 (hs.map Hq.dd) where
  cells i h hi := by
    have hlt : i < hs.length := by have := (List.getElem?_eq_some_iff.1 hi).1; rwa [List.length_map] at this
    have f := fun j (hj : j < 3) => (hc (i * 3 + j) (by omega)).trans (flat_get (f := c3) (N := 3) (fun _ => rfl) hi hj)
    have f' := (hc' (i * 1 + 0) (by omega)).trans (flat_get (f := c1) (N := 1) (fun _ => rfl) hi (by omega : 0 < 1))
    rw [show i * 1 + 0 = i by omega] at f'
    exact ⟨f 0 (by omega), f 1 (by omega), f 2 (by omega), f'⟩
  ok h hm := by
    obtain ⟨q, hq, rfl⟩ := List.mem_map.1 hm
    exact hok q hq
  lt hl := hg (by rwa [List.length_map] at hl)
/-- What the law does behind the first loop. -/
theorem tail5 {w0 : World} {bx : Nat} {x0 x1 x2 x3 : Int} (i0 : I64 x0) (i1 : I64 x1) (i2 : I64 x2) (i3 : I64 x3) {sa : Option Addr} {pc : Nat} {ps : List Pt} (h12 : ps.length ≤ 12) {hs : List Hq} {cks : List Ck3} (hlen : hs.length = ps.length) (hin : ∀ h ∈ hs, h.inn cks) {v5 v6 v7 : Value} (n : Nat) (a : Act) (w4 : World)
    (h0 : SG (s4 sa ps.length pc bx v5 v6 v7) 190 (LS w0 bx #[.int .i64 x0, .int .i64 x1, .int .i64 x2, .int .i64 x3] cks (R5 v5 hs) (R6 v6 hs) (R7 v7 hs)) a w4) :
    (Code.seq (regOf 25 C5) (.seq (regOf 26 C5) (.seq (regOf 27 C5) (.seq (.seq (regOf 28 C5) (.cond (.tmp 152) (.seq (regOf 29 C5) .ret) .skip)) (.seq (.seq (regOf 30 C5) (.block 2 (.loop (.seq (.seq (regOf 31 C5) (.cond (.tmp 156) .skip (.exit 2))) (.seq (.block 3 (.seq (regOf 33 C5) (.cond (.tmp 188) (.seq (regOf 34 C5) .ret) .skip))) (regOf 32 C5)))))) (.seq (regOf 35 C5) .ret)))))).wpIn Fence.wide n Try.prog (bodyPost Try.prog Try.f5 fun x w' => x = .returned (.bool true) ∧ Below w0.heap.size w0 w') a w4 := by
  have hL := h0.wp
  obtain ⟨s5, g5, k5, e5, hg5, hc5⟩ := row_own hL.o5
  obtain ⟨s6, g6, k6, e6, hg6, hc6⟩ := row_own hL.o6
  obtain ⟨s7, g7, k7, e7, hg7, hc7⟩ := row_own hL.o7
  simp only [R5, R6, R7] at e5 hg5 hc5 e6 hg6 hc6 e7 hg7 hc7
  have hR : Row w4 g5 (hs.map Hq.hd) := row_hd (fun h => (hg5 h).2) hc5 fun h hh => ⟨(hin h hh).1, Hq.lies_hd (hin h hh) hL⟩
  have hR3 : Row3 w4 g6 g7 (hs.map Hq.dd) := row_dd (fun h => ⟨(hg6 h).2, (hg7 h).2⟩) hc6 hc7 fun h hh => ⟨(hin h hh).1, Hq.lies_dd (hin h hh) hL⟩
  have ln : (hs.map Hq.hd).length = hs.length := List.length_map _
  have ln' : (hs.map Hq.dd).length = hs.length := List.length_map _
  have hT : ∀ (m : Nat) (w : World), Below w4.heap.size w4 w → CallsIn Fence.wide m Try.prog 19 #[v5] w fun e w' => e = .returned (.tuple #[.int .i64 (totS (hs.map Hq.hd) [] 0).1, .int .i64 (totS (hs.map Hq.hd) [] 0).2]) ∧ Below w.heap.size w w' := fun m w hw => by
    have := total_in (l := hs.map Hq.hd) (gp := s5) (g := g5) (cp := k5) (fun h => (hg5 (by omega)).1) (hR.below hw) (by omega) m
    rw [ln] at this
    rw [e5]; exact this
  have hT' : ∀ (m : Nat) (w : World), Below w4.heap.size w4 w → CallsIn Fence.wide m Try.prog 20 #[v6, v7] w fun e w' => e = .returned (.tuple #[.int .i64 (totS (hs.map Hq.hd) [] 0).1, .int .i64 (totS (hs.map Hq.hd) [] 0).2]) ∧ Below w.heap.size w w' := fun m w hw => by
    have := rtot_in (l := hs.map Hq.dd) (s6 := s6) (s7 := s7) (g6 := g6) (g7 := g7) (c6 := k6) (c7 := k7) (fun h => ⟨(hg6 (by omega)).1, (hg7 (by omega)).1⟩) (hR3.below hw) (by omega) m
    rw [ln', totS_dd] at this
    rw [e6, e7]; exact this
  have hH : ∀ (m : Nat) (w : World), Below w4.heap.size w4 w → CallsIn Fence.wide m Try.prog 21 #[ledgV x0 x1 x2 x3, v5] w fun e w' => e = .returned (.bool (totB x0 x1 x2 x3 && ((totS (hs.map Hq.hd) [] 0).2 == 0 && (totI x0 x1 x2 x3 == (totS (hs.map Hq.hd) [] 0).1)))) ∧ Below w.heap.size w w' := fun m w hw => by
    have := holds_in i0 i1 i2 i3 (l := hs.map Hq.hd) (gp := s5) (g := g5) (cp := k5) (fun h => (hg5 (by omega)).1) (hR.below hw) (by omega) m
    rw [ln] at this
    rw [e5]; exact this
  have bx4 : ∀ {w : World} {j : Nat} {v : Value}, Below w4.heap.size w4 w → (#[.int .i64 x0, .int .i64 x1, .int .i64 x2, .int .i64 x3] : Array Value)[j]? = some v → w.cell? ⟨bx, j, none⟩ = some v := fun {w j v} hw hv => by
    have := (hw.block bx (Array.getElem?_eq_some_iff.1 hL.box).1).trans hL.box
    simp [World.cell?, this, hv]
  refine wpIn_seq (tu25 n (belS (w0 := w4)) sa ps.length pc bx v5 v6 v7 _ _ hT _ a w4 (h0.none (Below.refl _ _)) ?_)
  intro a1 w1 h1
  refine wpIn_seq (tu26 n belS sa ps.length pc bx v5 v6 v7 _ _ hT' _ a1 w1 h1 ?_)
  intro a2 w2 h2
  refine wpIn_seq (tu27 n belS sa ps.length pc bx v5 v6 v7 x0 x1 x2 x3 (if totB x0 x1 x2 x3 then totI x0 x1 x2 x3 else 0) (totB x0 x1 x2 x3) _ _ (fun w hw => bx4 hw rfl) (fun w hw => bx4 hw rfl) (fun w hw => bx4 hw rfl) (fun w hw => bx4 hw rfl) (fun m w _ => c8 i0 i1 i2 i3 m w) _ a2 w2 h2 ?_)
  intro a3 w3 h3
  have fin : ∀ a w, SG (s4 sa ps.length pc bx v5 v6 v7) 190 (Below w4.heap.size w4) a w → (Code.seq (.seq (regOf 30 C5) (.block 2 (.loop (.seq (.seq (regOf 31 C5) (.cond (.tmp 156) .skip (.exit 2))) (.seq (.block 3 (.seq (regOf 33 C5) (.cond (.tmp 188) (.seq (regOf 34 C5) .ret) .skip))) (regOf 32 C5)))))) (.seq (regOf 35 C5) .ret)).wpIn Fence.wide n Try.prog (bodyPost Try.prog Try.f5 fun x w' => x = .returned (.bool true) ∧ Below w0.heap.size w0 w') a w := fun a w h =>
    stay5 (belS _ _ hL.bel h.wp) hlen h12 hin (fun c hc => (hL.ck c hc).below h.wp) (by rw [e5, hlen]) (by rw [e6, hlen]) (by rw [e7, hlen]) (fun hp => (hg5 (by omega)).1) (fun hp => ⟨(hg6 (by omega)).1, (hg7 (by omega)).1⟩) (hR.below h.wp) (hR3.below h.wp) n a (h.none (Below.refl _ _))
  cases hb : totB x0 x1 x2 x3 with
  | false =>
    rw [hb] at h3
    refine wpIn_seq (wpIn_seq (tu28a n belS sa ps.length pc bx v5 v6 v7 x0 x1 x2 x3 _ _ _ (fun w hw => bx4 hw rfl) (fun w hw => bx4 hw rfl) (fun w hw => bx4 hw rfl) (fun w hw => bx4 hw rfl) (fun m w hw => by
      have := hH m w hw
      rw [hb, Bool.false_and] at this
      exact this) _ a3 w3 h3 ?_))
    intro a5 w5 h5
    exact wpIn_cond (t := false) (by rw [eval_tmp]; exact h5.g 152 rfl) (wpIn_skip (fin a5 w5 (h5.sub (by intro p hp; simp only [List.mem_append]; exact .inl hp))))
  | true =>
    rw [hb] at h3
    cases he : (totS (hs.map Hq.hd) [] 0).2 == 0 with
    | false =>
      refine wpIn_seq (wpIn_seq (tu28b n belS sa ps.length pc bx v5 v6 v7 x0 x1 x2 x3 _ _ _ he (fun w hw => bx4 hw rfl) (fun w hw => bx4 hw rfl) (fun w hw => bx4 hw rfl) (fun w hw => bx4 hw rfl) (fun m w hw => by
        have := hH m w hw
        rw [hb, he, Bool.false_and, Bool.and_false] at this
        exact this) _ a3 w3 h3 ?_))
      intro a5 w5 h5
      exact wpIn_cond (t := false) (by rw [eval_tmp]; exact h5.g 152 rfl) (wpIn_skip (fin a5 w5 (h5.sub (by intro p hp; simp only [List.mem_append]; exact .inl hp))))
    | true =>
      have he2 : (totS (hs.map Hq.hd) [] 0).2 = 0 := by simpa using he
      rw [he2] at h3
      simp only [if_true] at h3
      refine wpIn_seq (wpIn_seq (tu28c n belS sa ps.length pc bx v5 v6 v7 x0 x1 x2 x3 _ _ (fun w hw => bx4 hw rfl) (fun w hw => bx4 hw rfl) (fun w hw => bx4 hw rfl) (fun w hw => bx4 hw rfl) (fun m w hw => by
        have := hH m w hw
        rw [hb, he, Bool.true_and, Bool.true_and] at this
        exact this) _ a3 w3 h3 ?_))
      intro a5 w5 h5
      exact wpIn_cond (t := false) (by rw [eval_tmp]; exact h5.g 152 rfl) (wpIn_skip (fin a5 w5 (h5.sub (by intro p hp; simp only [List.mem_append]; exact .inl hp))))
set_option maxHeartbeats 4000000 in
theorem totals_in {w0 : World} {sa : Option Addr} {ga oa pc : Nat} {ps : List Pt} (hP : PtsIn w0 sa ga oa ps) {x0 x1 x2 x3 : Int} (i0 : I64 x0) (i1 : I64 x1) (i2 : I64 x2) (i3 : I64 x3) (n : Nat) : CallsIn Fence.wide n Try.prog 5 #[.slice sa ps.length pc, ledgV x0 x1 x2 x3] w0 fun e w' => e = .returned (.bool true) ∧ Below w0.heap.size w0 w' := by
  refine callsIn_of_wp Try.func5 rfl trivial ?_
  show C5.wpIn _ _ _ _ _ _
  rw [C5_eq]
  refine wpIn_seq (tt0 n w0 sa ps.length pc x0 x1 x2 x3 _ _ ⟨by simp [Try.ntmps5], rfl, by simp [Try.ntmps5], rfl⟩ ?_)
  intro a1 h1
  have hb1 : Below w0.heap.size w0 (w0.alloc (.cells #[.int .i64 x0, .int .i64 x1, .int .i64 x2, .int .i64 x3] 23)) := (Below.refl _ _).alloc (Nat.le_refl _) _
  have hn1 := World.alloc_heap_new w0 (.cells #[.int .i64 x0, .int .i64 x1, .int .i64 x2, .int .i64 x3] 23)
  obtain ⟨bx, hbx⟩ : ∃ bx, bx = w0.heap.size := ⟨_, rfl⟩
  obtain ⟨w1, hw1⟩ : ∃ w1, w1 = w0.alloc (.cells #[.int .i64 x0, .int .i64 x1, .int .i64 x2, .int .i64 x3] 23) := ⟨_, rfl⟩
  rw [← hw1] at h1 hb1 hn1 ⊢
  rw [← hbx] at h1 hn1
  refine wpIn_seq (wpIn_seq (tt1 n w1 sa ps.length pc bx _ a1 h1 ?_))
  intro a2 h2
  by_cases h12 : 12 < ps.length
  · refine wpIn_cond (t := true) (by rw [eval_tmp, h2.g 24 rfl, decide_eq_true (by omega)]) (wpIn_seq ?_)
    refine tt2 n belS (fun m w _ => awake_in m w) _ a2 w1 ((h2.sub (by simp)).sg (Below.refl w1.heap.size w1)) ?_
    intro a7 w7 h7
    exact wpIn_ret (ret5 h7.sr (belS _ _ hb1 h7.wp))
  refine wpIn_cond (t := false) (by rw [eval_tmp, h2.g 24 rfl, decide_eq_false (by omega)]) (wpIn_skip ?_)
  refine wpIn_seq (tt3 n w1 sa ps.length pc bx _ a2 (h2.sub (by simp)) ?_)
  intro a3 h3
  refine wpIn_seq (tt4 n w1 sa ps.length pc bx _ a3 h3 ?_)
  intro a4 h4
  refine wpIn_seq (tt5 n w1 sa ps.length pc bx _ a4 h4 ?_)
  intro a5 h5
  refine wpIn_seq (wpIn_seq (tt6 n w1 sa ps.length pc bx _ a5 h5 ?_))
  intro a6 h6
  have hL0 : LS w0 bx #[.int .i64 x0, .int .i64 x1, .int .i64 x2, .int .i64 x3] [] (R5 (.slice none 0 0) []) (R6 (.slice none 0 0) []) (R7 (.slice none 0 0) []) w1 :=
    ⟨hb1, hn1, World.ownsRow_nil _ _ _ _, World.ownsRow_nil _ _ _ _, World.ownsRow_nil _ _ _ _, fun c hc => by cases hc⟩
  refine wpIn_block (wpIn_loop (fun a w' => ∃ i hs cks v5 v6 v7, i ≤ ps.length ∧ hs.length = i ∧ (∀ h ∈ hs, h.inn cks) ∧ SG (s5 sa ps.length pc bx v5 v6 v7 i) 190 (LS w0 bx #[.int .i64 x0, .int .i64 x1, .int .i64 x2, .int .i64 x3] cks (R5 v5 hs) (R6 v6 hs) (R7 v7 hs)) a w') (fun a _ => ps.length - slotN 8 a) ⟨0, [], [], .slice none 0 0, .slice none 0 0, .slice none 0 0, Nat.zero_le _, rfl, fun h hh => (by cases hh), h6.sg hL0⟩ ?_)
  rintro a w4 ⟨i, hs, cks, v5, v6, v7, hi, hl, hin, ha⟩
  have e8 := ha.slot (t := 8) (v := i) (k := .i64) (by simp)
  have hG := ha.wp
  refine wpIn_seq (wpIn_seq (tt7 n w4 sa ps.length pc bx v5 v6 v7 i _ a ha.sr ?_))
  intro a7 h7
  by_cases hlt : i < ps.length
  · refine wpIn_cond (t := true) (by rw [eval_tmp, h7.g 29 rfl, decide_eq_true (by omega)]) (wpIn_skip (wpIn_seq (wpIn_block ?_)))
    obtain ⟨rfl, _⟩ := hP.gp (by omega)
    refine part5 hP (by omega) hlt hl hin n _ a7 w4 ((h7.sub (by intro p hp; simp only [List.mem_append]; exact .inl hp)).sg hG) (fun a w hp => hp) ?_
    intro h cks' v5' v6' v7' a8 w8 hin' h8
    have hG8 := h8.wp
    show (regOf 8 C5).wpIn _ _ _ _ _ _
    refine tt8 n w8 (some ⟨ga, oa, none⟩) ps.length pc bx v5' v6' v7' i hlt (by omega) _ a8 h8.sr ?_
    intro a9 h9
    have h9 : SG (s5 (some ⟨ga, oa, none⟩) ps.length pc bx v5' v6' v7' (i + 1)) 190 _ a9 w8 := h9.sg hG8
    exact ⟨⟨i + 1, hs ++ [h], cks', v5', v6', v7', hlt, by rw [List.length_append, hl]; rfl, hin', h9⟩, by rw [e8, h9.slot (t := 8) (v := i + 1) (k := .i64) (by simp)]; omega⟩
  · refine wpIn_cond (t := false) (by rw [eval_tmp, h7.g 29 rfl, decide_eq_false (by omega)]) (wpIn_exit ?_)
    have hil : hs.length = ps.length := by omega
    exact tail5 (sa := sa) (pc := pc) (bx := bx) (v5 := v5) (v6 := v6) (v7 := v7) i0 i1 i2 i3 (by omega) hil hin n a7 w4 ((h7.sub (by intro p hp; simp only [s4, s5, List.cons_append, List.nil_append, List.mem_cons, List.not_mem_nil, or_false] at hp ⊢; rcases hp with h | h | h | h | h <;> simp [h])).sg hG)
end Go.Proofs.Ytigblagodlfedaa
