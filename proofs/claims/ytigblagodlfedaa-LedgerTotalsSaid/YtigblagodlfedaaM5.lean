/- Glow: the walk of a law. -/
import Derived.RangeFuncNested
import Derived.RangeFuncBound
import Derived.RangeFuncCalls
import Derived.RangeFuncLeaves
import Derived.Shelf.Abstract
import Derived.Shelf.RegionOpen
import Derived.WalkKit
import Derived.OwnWalkIn
import Derived.TacticsInMore
import Derived.LoopNIn
import Derived.LoopIn
import Derived.Lib.Hide
import Derived.IntWalk
import Derived.Maps.AppendAt
import Derived.Test.YtigblagodlfedaaHand

import Derived.Laws.CopyOwn
import Derived.Deep.Slices
import Derived.SizedLaws
import Derived.DataReads
import Derived.Test.YtigblagodlfedaaM3
set_option linter.unusedVariables false
set_option linter.unusedSimpArgs false
namespace Go.Proofs.Ytigblagodlfedaa
open Go.RowKit Go.Shelf
attribute [local go_sem] Oper.semAt_some

open Pf (cellK cellL mayS spotV I64 U8 Gives movR totI totB ledgV)
/-! ### The parts that come in -/
theorem list_of {α : Type} {Q : Nat → α → Prop} : ∀ n : Nat, (∀ i, i < n → ∃ x, Q i x) → ∃ l : List α, l.length = n ∧ ∀ i x, l[i]? = some x → Q i x
  | 0, _ => ⟨[], rfl, fun i x h => by simp at h⟩
  | n + 1, h => by
    obtain ⟨l, h1, h2⟩ := list_of n fun i hi => h i (by omega)
    obtain ⟨y, hy⟩ := h n (by omega)
    refine ⟨l ++ [y], by simp [h1], fun i x hx => ?_⟩
    rcases Nat.lt_or_ge i l.length with hi | hi
    · rw [List.getElem?_append_left hi] at hx; exact h2 i x hx
    · rw [List.getElem?_append_right hi] at hx
      have h0 : i - l.length = 0 := by
        have := (List.getElem?_eq_some_iff.1 hx).1
        simp at this; omega
      rw [h0] at hx
      simp only [List.getElem?_cons_zero, Option.some.injEq] at hx
      rw [show i = n by omega, ← hx]; exact hy
theorem spot_none {w : World} {a : Addr} {v : Value} (h : w.cell? a = some v) : a.spot = none ∧ a.block < w.heap.size := by
  unfold World.cell? at h
  split at h
  · rename_i hb
    split at h
    · cases h
    · rename_i hs
      exact ⟨by simpa using hs, (Array.getElem?_eq_some_iff.1 hb).1⟩
  · cases h
section
variable {H : Type} {enc : TypeId × Value → H} {w : World} {base : Nat} {held : Bool}
/-- A slice's cells, one element after the other. -/
theorem row_of {t e N fuel : Nat} {c : Value} {x : DataW H × List MemPlace} (ht : Try.prog.underlying t = some (.slice e)) (hc : Try.prog.cellsOf e = N) (hN : 0 < N) (h : DataW.trod enc Try.prog w base (fun _ => true) held fuel t [c] = some x) :
    ∃ sa len cap g o, c = .slice sa len cap ∧ (0 < len → sa = some ⟨g, o, none⟩ ∧ g < w.heap.size) ∧ ∀ i, i < len → ∃ cs', cs'.length = N ∧ (∀ j, j < N → w.cell? ⟨g, o + i * N + j, none⟩ = cs'[j]?) ∧ ∃ n y, DataW.trod enc Try.prog w base (fun _ => true) held n e cs' = some y := by
  rcases Deep.open_slice ht h with ⟨h1, _⟩ | ⟨a, len, cap, m, n, Dl, Pl, h1, hbase, hl, hmx, hm, hx, hel⟩
  · simp only [List.cons.injEq, and_true] at h1
    exact ⟨none, 0, 0, 0, 0, h1, fun h => absurd h (by omega), fun i hi => absurd hi (by omega)⟩
  · simp only [List.cons.injEq, and_true] at h1
    simp only [if_true] at hm
    subst hm
    have hsp : 0 < len → a.spot = none ∧ a.block < w.heap.size := fun hp => by
      obtain ⟨cs', hcs, _⟩ := hel 0 (by omega)
      obtain ⟨_, hlen, hget⟩ := World.cells?_some hcs
      have := hget 0 (by omega)
      rw [show (a.add (0 * Try.prog.cellsOf e)).add 0 = a by simp [Addr.add]] at this
      obtain ⟨v, hv⟩ : ∃ v, cs'[0]? = some v := ⟨cs'[0], List.getElem?_eq_getElem (by omega)⟩
      exact spot_none (this.trans hv)
    obtain ⟨g, o, sp⟩ := a
    refine ⟨_, len, _, g, o, h1, fun hp => ?_, fun i hi => ?_⟩
    · obtain ⟨h2, h3⟩ := hsp hp
      simp only at h2
      subst h2
      exact ⟨rfl, h3⟩
    · obtain ⟨h2, _⟩ := hsp (by omega)
      simp only at h2
      subst h2
      obtain ⟨cs', hcs, htd⟩ := hel i (by omega)
      obtain ⟨_, hlen, hget⟩ := World.cells?_some hcs
      refine ⟨cs', hlen.trans hc, fun j hj => ?_, n, _, htd⟩
      have := hget j (by omega)
      rw [add_none, add_none, hc] at this
      exact this
theorem fit_cons {k : IntKind} {ks : List IntKind} {zs : List Int} (h : Sx.Fit (k :: ks) zs) : ∃ z r, zs = z :: r ∧ (k.min ≤ z ∧ z ≤ k.max) ∧ Sx.Fit ks r := by
  cases h with
  | cons a t => exact ⟨_, _, rfl, a, t⟩
theorem fit_nil {zs : List Int} (h : Sx.Fit [] zs) : zs = [] := by cases h; rfl
theorem ed_of {n : Nat} {cs : List Value} {y : DataW H × List MemPlace} (h : DataW.trod enc Try.prog w base (fun _ => true) held n 80 cs = some y) : ∃ e : Ed, cs = [.int .i64 e.at_, .int .u8 e.k, .int .u8 e.v, .int .u8 e.s, .int .u8 e.m_] ∧ e.ok := by
  obtain ⟨zs, hf, rfl⟩ := Sx.ints_trod (P := Try.prog) 3 (t := 80) (ks := [.i64, .u8, .u8, .u8, .u8]) (by kernel_rfl) h
  obtain ⟨z0, r0, rfl, a0, hf⟩ := fit_cons hf
  obtain ⟨z1, r1, rfl, a1, hf⟩ := fit_cons hf
  obtain ⟨z2, r2, rfl, a2, hf⟩ := fit_cons hf
  obtain ⟨z3, r3, rfl, a3, hf⟩ := fit_cons hf
  obtain ⟨z4, r4, rfl, a4, hf⟩ := fit_cons hf
  obtain rfl := fit_nil hf
  exact ⟨⟨z0, z1, z2, z3, z4⟩, rfl, a1, a2, a3, a4⟩
theorem sp_of {n : Nat} {cs : List Value} {y : DataW H × List MemPlace} (h : DataW.trod enc Try.prog w base (fun _ => true) held n 33 cs = some y) : ∃ p : Sp3, cs = [.int .i64 p.1, .int .i64 p.2.1, .int .i64 p.2.2] ∧ okS p := by
  obtain ⟨zs, hf, rfl⟩ := Sx.ints_trod (P := Try.prog) 3 (t := 33) (ks := [.i64, .i64, .i64]) (by kernel_rfl) h
  obtain ⟨z0, r0, rfl, a0, hf⟩ := fit_cons hf
  obtain ⟨z1, r1, rfl, a1, hf⟩ := fit_cons hf
  obtain ⟨z2, r2, rfl, a2, hf⟩ := fit_cons hf
  obtain rfl := fit_nil hf
  exact ⟨(z0, z1, z2), rfl, a0, a1, a2⟩
theorem eds_of {n : Nat} {c : Value} {y : DataW H × List MemPlace} (h : DataW.trod enc Try.prog w base (fun _ => true) held n 31 [c] = some y) : ∃ se ec ge eo, ∃ es : List Ed, c = .slice se es.length ec ∧ EdIn w se ge eo es := by
  obtain ⟨sa, len, cap, g, o, rfl, h1, h2⟩ := row_of (N := 5) Try.underlying31 (by kernel_rfl) (by omega) h
  obtain ⟨es, hl, hes⟩ := list_of (α := Ed) (Q := fun i e => (w.cell? ⟨g, o + i * 5, none⟩ = some (.int .i64 e.at_) ∧ w.cell? ⟨g, o + i * 5 + 1, none⟩ = some (.int .u8 e.k) ∧ w.cell? ⟨g, o + i * 5 + 2, none⟩ = some (.int .u8 e.v) ∧ w.cell? ⟨g, o + i * 5 + 3, none⟩ = some (.int .u8 e.s) ∧ w.cell? ⟨g, o + i * 5 + 4, none⟩ = some (.int .u8 e.m_)) ∧ e.ok) len fun i hi => by
    obtain ⟨cs', _, hc, n', y', ht⟩ := h2 i hi
    obtain ⟨e, rfl, he⟩ := ed_of ht
    exact ⟨e, ⟨hc 0 (by omega), hc 1 (by omega), hc 2 (by omega), hc 3 (by omega), hc 4 (by omega)⟩, he⟩
  subst hl
  exact ⟨sa, cap, g, o, es, rfl, h1, fun i e he => (hes i e he).1, fun e he => by
    obtain ⟨i, hi⟩ := List.getElem?_of_mem he
    exact (hes i e hi).2⟩
/-- A spot, its edits, and whether there is no chunk. -/
structure Pt where
  sp : Sp3
  es : List Ed
  se : Option Addr
  ge : Nat
  eo : Nat
  ec : Nat
  nil : Bool
def Pt.ok (p : Pt) (w : World) : Prop := okS p.sp ∧ EdIn w p.se p.ge p.eo p.es
theorem pt_of {n : Nat} {cs : List Value} {y : DataW H × List MemPlace} (h : DataW.trod enc Try.prog w base (fun _ => true) held n 56 cs = some y) : ∃ p : Pt, cs = [.int .i64 p.sp.1, .int .i64 p.sp.2.1, .int .i64 p.sp.2.2, .slice p.se p.es.length p.ec, .bool p.nil] ∧ p.ok w := by
  obtain ⟨xs, m, _, _, hlen, hxl, hf⟩ := DataW.trod_struct Try.underlying56 h
  have h5 : Try.prog.cellsOf 56 = 5 := by kernel_rfl
  have c33 : Try.prog.cellsOf 33 = 3 := by kernel_rfl
  have c31 : Try.prog.cellsOf 31 = 1 := by kernel_rfl
  have c4 : Try.prog.cellsOf 4 = 1 := by kernel_rfl
  rw [h5] at hlen
  match cs, hlen with
  | [v0, v1, v2, v3, v4], _ =>
    have hs : xs.length = 3 := hxl
    match xs, hs with
    | [x0, x1, x2], _ =>
      have f0 : DataW.trod enc Try.prog w base (fun _ => true) held m 33 (List.take (Try.prog.cellsOf 33) [v0, v1, v2, v3, v4]) = some x0 := hf 0 _ rfl
      have f1 : DataW.trod enc Try.prog w base (fun _ => true) held m 31 (List.take (Try.prog.cellsOf 31) [v3, v4]) = some x1 := hf 1 _ rfl
      have f2 : DataW.trod enc Try.prog w base (fun _ => true) held m 4 (List.take (Try.prog.cellsOf 4) [v4]) = some x2 := hf 2 _ rfl
      rw [c33] at f0
      rw [c31] at f1
      rw [c4] at f2
      have f0 : DataW.trod enc Try.prog w base (fun _ => true) held m 33 [v0, v1, v2] = some x0 := f0
      have f1 : DataW.trod enc Try.prog w base (fun _ => true) held m 31 [v3] = some x1 := f1
      have f2 : DataW.trod enc Try.prog w base (fun _ => true) held m 4 [v4] = some x2 := f2
      obtain ⟨p, hp, hok⟩ := sp_of f0
      simp only [List.cons.injEq, and_true] at hp
      obtain ⟨rfl, rfl, rfl⟩ := hp
      obtain ⟨se, ec, ge, eo, es, rfl, hE⟩ := eds_of f1
      obtain ⟨b, hb⟩ : ∃ b, v4 = .bool b := by
        cases m with
        | zero => simp [DataW.trod] at f2
        | succ m =>
          unfold DataW.trod at f2
          rw [Try.underlying4] at f2
          split at f2 <;> simp_all
      subst hb
      exact ⟨⟨p, es, se, ge, eo, ec, b⟩, rfl, hok, hE⟩
/-- A row of parts. -/
structure PtsIn (w : World) (sa : Option Addr) (ga oa : Nat) (ps : List Pt) : Prop where
  gp : 0 < ps.length → sa = some ⟨ga, oa, none⟩ ∧ ga < w.heap.size
  cells : ∀ i p, ps[i]? = some p → w.cell? ⟨ga, oa + i * 5, none⟩ = some (.int .i64 p.sp.1) ∧ w.cell? ⟨ga, oa + i * 5 + 1, none⟩ = some (.int .i64 p.sp.2.1) ∧ w.cell? ⟨ga, oa + i * 5 + 2, none⟩ = some (.int .i64 p.sp.2.2) ∧ w.cell? ⟨ga, oa + i * 5 + 3, none⟩ = some (.slice p.se p.es.length p.ec) ∧ w.cell? ⟨ga, oa + i * 5 + 4, none⟩ = some (.bool p.nil)
  ok : ∀ p ∈ ps, p.ok w
theorem pts_of {v : Value} {d : DataW H} {q : List MemPlace} (hv : ∃ a l c, v = .slice a l c) (h : DataW.Trod enc Try.prog w base (fun _ => true) held 51 v d q) : ∃ sa pc ga oa, ∃ ps : List Pt, v = .slice sa ps.length pc ∧ PtsIn w sa ga oa ps := by
  obtain ⟨a, l, c, rfl⟩ := hv
  obtain ⟨fuel, hf⟩ := h
  have hf : DataW.trod enc Try.prog w base (fun _ => true) held fuel 51 [.slice a l c] = some (d, q) := hf
  obtain ⟨sa, len, cap, g, o, he, h1, h2⟩ := row_of (N := 5) Try.underlying51 (by kernel_rfl) (by omega) hf
  rw [he]
  obtain ⟨ps, hl, hps⟩ := list_of (α := Pt) (Q := fun i p => (w.cell? ⟨g, o + i * 5, none⟩ = some (.int .i64 p.sp.1) ∧ w.cell? ⟨g, o + i * 5 + 1, none⟩ = some (.int .i64 p.sp.2.1) ∧ w.cell? ⟨g, o + i * 5 + 2, none⟩ = some (.int .i64 p.sp.2.2) ∧ w.cell? ⟨g, o + i * 5 + 3, none⟩ = some (.slice p.se p.es.length p.ec) ∧ w.cell? ⟨g, o + i * 5 + 4, none⟩ = some (.bool p.nil)) ∧ p.ok w) len fun i hi => by
    obtain ⟨cs', _, hc, n', y', ht⟩ := h2 i hi
    obtain ⟨p, rfl, hp⟩ := pt_of ht
    exact ⟨p, ⟨hc 0 (by omega), hc 1 (by omega), hc 2 (by omega), hc 3 (by omega), hc 4 (by omega)⟩, hp⟩
  subst hl
  exact ⟨sa, cap, g, o, ps, rfl, h1, fun i p hp => (hps i p hp).1, fun p hp => by
    obtain ⟨i, hi⟩ := List.getElem?_of_mem hp
    exact (hps i p hi).2⟩
end
theorem PtsIn.below {w w' : World} {sa : Option Addr} {ga oa : Nat} {ps : List Pt} (h : PtsIn w sa ga oa ps) (hb : Below w.heap.size w w') : PtsIn w' sa ga oa ps where
  gp hl := ⟨(h.gp hl).1, Nat.lt_of_lt_of_le (h.gp hl).2 hb.size⟩
  cells i x hx := by
    have hl := (h.gp (by have := (List.getElem?_eq_some_iff.1 hx).1; omega)).2
    obtain ⟨h0, h1, h2, h3, h4⟩ := h.cells i x hx
    exact ⟨(hb.cell (p := ⟨ga, oa + i * 5, none⟩) hl).trans h0, (hb.cell (p := ⟨ga, oa + i * 5 + 1, none⟩) hl).trans h1, (hb.cell (p := ⟨ga, oa + i * 5 + 2, none⟩) hl).trans h2, (hb.cell (p := ⟨ga, oa + i * 5 + 3, none⟩) hl).trans h3, (hb.cell (p := ⟨ga, oa + i * 5 + 4, none⟩) hl).trans h4⟩
  ok p hp := ⟨(h.ok p hp).1, (h.ok p hp).2.below hb⟩
end Go.Proofs.Ytigblagodlfedaa
