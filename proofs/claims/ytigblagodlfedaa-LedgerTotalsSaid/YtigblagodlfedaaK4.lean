/- Glow: the walk of a law. -/
import Derived.RangeFuncNested
import Derived.RangeFuncBound
import Derived.RangeFuncCalls
import Derived.RangeFuncLeaves
import Derived.Shelf.Abstract
import Derived.Shelf.RegionOpen
import Derived.WalkKit
import Derived.OwnWalkIn
import Derived.TacticsInMore
import Derived.LoopNIn
import Derived.LoopIn
import Derived.Lib.Hide
import Derived.IntWalk
import Derived.Maps.AppendAt
import Derived.Test.YtigblagodlfedaaHand
import Derived.Maps.Keyed
import Derived.DeepKeys4
import Derived.Carry
import Derived.WideKeyEntry
import Derived.Test.YtigblagodlfedaaK3
set_option linter.unusedVariables false
set_option linter.unusedSimpArgs false
namespace Go.Proofs.Ytigblagodlfedaa
open Go.RowKit Go.Shelf
attribute [local go_sem] Oper.semAt_some

/-! ### The map of the spots that were met -/
open Pf (cellK cellL mayS spotV I64 U8 Gives movR)
open Go.ChangeMaps (setBlock heap_setBlock_same heap_setBlock_other)
theorem law33 : Go.Maps.Keyed Try.prog 33 := .of_law (deep_law_laid (m := 8) (by kernel_rfl) (by decide) (of_decide_eq_true (by kernel_rfl)) (by kernel_rfl) (by kernel_rfl))
abbrev Sp3 := Int × Int × Int
abbrev sv (p : Sp3) : Value := spotV p.1 p.2.1 p.2.2
def okS (p : Sp3) : Prop := I64 p.1 ∧ I64 p.2.1 ∧ I64 p.2.2
theorem sv_inj {p q : Sp3} (h : sv p = sv q) : p = q := by
  obtain ⟨a, b, c⟩ := p
  obtain ⟨a', b', c'⟩ := q
  simp only [sv, spotV, Value.agg.injEq, Array.mk.injEq, List.cons.injEq, Value.int.injEq, true_and, and_true] at h
  obtain ⟨rfl, rfl, rfl⟩ := h
  rfl
theorem wf64 {x : Int} (h : I64 x) : (Lit.int .i64 x).wf = true := by
  have h1 := h.1
  have h2 := h.2
  simp [Lit.wf, IntKind.min, IntKind.max, IntKind.bits, IntKind.signed]
  omega
theorem key33 {p : Sp3} (h : okS p) : ∃ kl, keyOf Try.prog 33 (sv p) = some kl := by
  obtain ⟨h1, h2, h3⟩ := h
  have w1 := wf64 h1
  have w2 := wf64 h2
  have w3 := wf64 h3
  have hk : Try.prog.keyType 33 = true := by kernel_rfl
  have hc : Try.prog.cellsOf 33 = 3 := by kernel_rfl
  have hc3 : Try.prog.cellsOf 3 = 1 := by kernel_rfl
  obtain ⟨m, hm⟩ : ∃ m, Try.prog.types.size = m + 1 := by
    have : 0 < Try.prog.types.size := of_decide_eq_true (by kernel_rfl)
    exact ⟨Try.prog.types.size - 1, by omega⟩
  have l3 : Try.prog.keyLits (m + 1 + 1) 33 [.int .i64 p.1, .int .i64 p.2.1, .int .i64 p.2.2] = some [.int .i64 p.1, .int .i64 p.2.1, .int .i64 p.2.2] := by
    simp [Program.keyLits, Try.underlying33, Try.underlying3, hc, hc3, w1, w2, w3]
  refine ⟨.string (keyBytes [.int .i64 p.1, .int .i64 p.2.1, .int .i64 p.2.2]), ?_⟩
  simp [keyOf, Try.underlying33, hk, Value.formed, hc, Value.cells, hm, l3]
def entM (l : List Sp3) : Array MapEntry := (l.zipIdx.map fun p => (⟨sv p.1, .int .i64 1, p.2⟩ : MapEntry)).toArray
theorem entM_snoc (l : List Sp3) (p : Sp3) : entM (l ++ [p]) = (entM l).push ⟨sv p, .int .i64 1, l.length⟩ := by
  apply Array.ext'
  simp [entM, List.zipIdx_append]
theorem entM_mem {l : List Sp3} {e : MapEntry} (h : e ∈ (entM l).toList) : ∃ p, p ∈ l ∧ e.key = sv p ∧ e.val = .int .i64 1 := by
  simp only [entM, List.mem_map] at h
  obtain ⟨⟨p, i⟩, h1, rfl⟩ := h
  exact ⟨p, List.fst_mem_of_mem_zipIdx h1, rfl, rfl⟩
theorem entM_has {l : List Sp3} {p : Sp3} (h : p ∈ l) : ∃ e ∈ (entM l).toList, e.key = sv p := by
  obtain ⟨i, hi, rfl⟩ := List.getElem_of_mem h
  refine ⟨⟨sv l[i], .int .i64 1, i⟩, ?_, rfl⟩
  simp only [entM, List.mem_map]
  exact ⟨(l[i], i), List.mem_zipIdx_iff_getElem?.2 (by simp), rfl⟩
theorem entM_size (l : List Sp3) : (entM l).size = l.length := by simp [entM]
theorem entM_born (l : List Sp3) : (entM l).toList.map (·.born) = List.range l.length := by
  unfold entM
  rw [List.map_map]
  show List.map Prod.snd l.zipIdx = _
  rw [List.zipIdx_map_snd, List.range_eq_range']
section
variable {w : World} {b : Nat} {l : List Sp3} {p : Sp3}
theorem entM_keys (hl : ∀ q ∈ l, okS q) : ∀ e ∈ (entM l).toList, ∃ k, keyOf Try.prog 33 e.key = some k := fun e he => by
  obtain ⟨q, hq, h1, _⟩ := entM_mem he
  rw [h1]; exact key33 (hl q hq)
theorem zero3 (w : World) : (zeroValue 3).run Try.prog w = .ok (.int .i64 0) w := by
  obtain ⟨i, hi, hz⟩ : ∃ i, Try.prog.info? 3 = some i ∧ i.zero = some (.int .i64 0) := by
    have h : (Try.prog.info? 3).map (·.zero) = some (some (.int .i64 0)) := by kernel_rfl
    simpa [Option.map_eq_some_iff] using h
  simp [zeroValue, typeInfo, hi, hz]
theorem run_lookM {es : Array MapEntry} {c : Nat} (hb : w.heap[b]? = some (.map es c)) (hes : ∀ e ∈ es.toList, ∃ k, keyOf Try.prog 33 e.key = some k) (hp : okS p) :
    (∃ e ∈ es.toList, e.key = sv p ∧ (Instr.lookup 86 (.map (some b)) (sv p) false).run Try.prog w = .ok e.val w) ∨ ((∀ e ∈ es.toList, e.key ≠ sv p) ∧ (Instr.lookup 86 (.map (some b)) (sv p) false).run Try.prog w = .ok (.int .i64 0) w) := by
  obtain ⟨kl, hk⟩ := key33 hp
  rcases law33.find w hk es.toList hes with ⟨h1, h2⟩ | ⟨j, e0, h1, h2, h3⟩
  · exact .inr ⟨h2, by simp [Instr.lookup, run_underlying Try.underlying86, MapKept.run_getObj_map hb, law33.check w _ hk, h1, zero3, Result.andThen]⟩
  · exact .inl ⟨e0, List.mem_of_getElem? h2, h3, by simp [Instr.lookup, run_underlying Try.underlying86, MapKept.run_getObj_map hb, law33.check w _ hk, h1, Result.andThen]⟩
theorem look_in (hl : ∀ q ∈ l, okS q) (hb : w.heap[b]? = some (.map (entM l) l.length)) (hp : okS p) (hm : p ∈ l) : (Instr.lookup 86 (.map (some b)) (sv p) false).run Try.prog w = .ok (.int .i64 1) w := by
  rcases run_lookM hb (entM_keys hl) hp with ⟨e, h1, h2, h3⟩ | ⟨h1, _⟩
  · obtain ⟨q, _, _, h4⟩ := entM_mem h1
    rw [h3, h4]
  · obtain ⟨e, h2, h3⟩ := entM_has hm
    exact absurd h3 (h1 e h2)
theorem look_not (hl : ∀ q ∈ l, okS q) (hb : w.heap[b]? = some (.map (entM l) l.length)) (hp : okS p) (hm : p ∉ l) : (Instr.lookup 86 (.map (some b)) (sv p) false).run Try.prog w = .ok (.int .i64 0) w := by
  rcases run_lookM hb (entM_keys hl) hp with ⟨e, h1, h2, h3⟩ | ⟨_, h1⟩
  · obtain ⟨q, hq, h4, _⟩ := entM_mem h1
    rw [h4] at h2
    exact absurd (sv_inj h2 ▸ hq) hm
  · exact h1
/-- .. with the entry that is being made. -/
def midM (l : List Sp3) (p : Sp3) : Array MapEntry := (entM l).push ⟨sv p, .int .i64 0, l.length⟩
theorem look_mid (hl : ∀ q ∈ l, okS q) (hb : w.heap[b]? = some (.map (midM l p) (l.length + 1))) (hp : okS p) (hm : p ∉ l) : (Instr.lookup 86 (.map (some b)) (sv p) false).run Try.prog w = .ok (.int .i64 0) w := by
  have hes : ∀ e ∈ (midM l p).toList, ∃ k, keyOf Try.prog 33 e.key = some k := fun e he => by
    simp only [midM, Array.toList_push, List.mem_append, List.mem_singleton] at he
    rcases he with he | rfl
    · exact entM_keys hl e he
    · exact key33 hp
  rcases run_lookM hb hes hp with ⟨e, h1, h2, h3⟩ | ⟨_, h1⟩
  · simp only [midM, Array.toList_push, List.mem_append, List.mem_singleton] at h1
    rcases h1 with h1 | rfl
    · obtain ⟨q, hq, h4, _⟩ := entM_mem h1
      rw [h4] at h2
      exact absurd (sv_inj h2 ▸ hq) hm
    · exact h3
  · exact h1
theorem run_entry (hl : ∀ q ∈ l, okS q) (hb : w.heap[b]? = some (.map (entM l) l.length)) (hp : okS p) (hm : p ∉ l) :
    (Instr.mapEntry 86 (.map (some b)) (sv p)).run Try.prog w = .ok (.tuple #[.int .i64 0, .int .i64 l.length]) (setBlock w b (.map (midM l p) (l.length + 1))) := by
  obtain ⟨kl, hk⟩ := key33 hp
  rcases law33.find w hk (entM l).toList (entM_keys hl) with ⟨h1, h2⟩ | ⟨j, e0, h1, h2, h3⟩
  · simp [Instr.mapEntry, run_underlying Try.underlying86, MapKept.run_getObj_map hb, law33.check w false hk, h1, zero3, MapKept.run_setObj_map _ hb, Result.andThen, setBlock, midM, goInt]
  · obtain ⟨q, hq, h4, _⟩ := entM_mem (List.mem_of_getElem? h2)
    rw [h4] at h3
    exact absurd (sv_inj h3 ▸ hq) hm
theorem run_estore (hb : w.heap[b]? = some (.map (midM l p) (l.length + 1))) :
    (Instr.entryStore 86 (.map (some b)) (.int .i64 l.length) (.int .i64 1)).run Try.prog w = .ok () (setBlock w b (.map (entM (l ++ [p])) (l.length + 1))) := by
  have hidx : (midM l p).findIdx? (fun e => ((e.born : Nat) : Int) == ((l.length : Nat) : Int)) = some (entM l).size := by
    rw [WideElems.findIdx_arr]
    refine WideElems.findIdx_born (l := (midM l p).toList) (j := (entM l).size) (e0 := ⟨sv p, .int .i64 0, l.length⟩) ?_ (by simp [midM])
    simp only [midM, Array.toList_push, List.map_append, List.map_cons, List.map_nil, entM_born]
    rw [← List.range_succ]
    exact List.nodup_range
  have hmod : (midM l p).modify (entM l).size (fun e => { e with val := .int .i64 1 }) = entM (l ++ [p]) := by
    rw [entM_snoc]
    apply Array.ext'
    rw [midM, Array.toList_modify, Array.toList_push, Array.toList_push, ← Array.length_toList, WideElems.modify_last]
  simp [Instr.entryStore, MapKept.run_getObj_map hb, asInt, asIntOf, hidx, hmod, MapKept.run_setObj_map _ hb, Result.andThen, setBlock]
end
theorem Below.setBlk {B : Nat} {a w : World} (h : Below B a w) {b : Nat} (hb : B ≤ b) (o : Obj) : Below B a (setBlock w b o) :=
  h.trans ⟨rfl, rfl, rfl, by simp [setBlock], fun k hk => by show (w.heap.setIfInBounds b o)[k]? = _; rw [Array.getElem?_setIfInBounds, if_neg (by omega)]⟩
theorem Has.setM {W0 w : World} {b : Nat} {es : Array MapEntry} {c : Nat} {bs : List (Nat × Obj)} (h : Has W0 ((b, .map es c) :: bs) w) (es' : Array MapEntry) (c' : Nat) : Has W0 ((b, .map es' c') :: bs) (setBlock w b (.map es' c')) where
  bel := Below.setBlk h.bel (h.new _ List.mem_cons_self) _
  blk := fun p hp => by
    have hb0 := h.blk _ List.mem_cons_self
    rcases List.mem_cons.1 hp with rfl | hp
    · exact heap_setBlock_same hb0 _
    · have hne : p.1 ≠ b := fun e => by
        have := h.nd
        simp only [List.map_cons, List.nodup_cons] at this
        exact this.1 (List.mem_map.2 ⟨p, hp, e⟩)
      exact (heap_setBlock_other hb0 _ hne).trans (h.blk p (by simp [hp]))
  new := fun p hp => by
    rcases List.mem_cons.1 hp with rfl | hp
    · exact h.new (b, .map es c) List.mem_cons_self
    · exact h.new p (by simp [hp])
  nd := by have := h.nd; simpa using this
section
variable {F : Fence} {nF : Nat} {P : Program} {w w' : World} {K : Act → World → Prop} {o : Oper} {a : Act} {Q : Exit → Act → World → Prop}
theorem operIn_lookup (x i : Operand) (t : TypeId) (ho : o.op = .lookup t x i false) (v : Value) (hr : (Instr.lookup t (a.eval x) (a.eval i) false).run P w = .ok v w) (h : K (a.put o.dst v) w) : o.wpIn F nF P a w K Q := by
  unfold Oper.wpIn
  refine ⟨by simp [Oper.about, ho], ?_⟩
  rw [Oper.semAt_plain F _ _ (by rw [ho]; intro c hc'; cases hc')]
  simp [execOp, ho, hr, Result.andThen]
  exact h
theorem operIn_mapEntry (x i : Operand) (t : TypeId) (ho : o.op = .mapEntry t x i) (v : Value) (hr : (Instr.mapEntry t (a.eval x) (a.eval i)).run P w = .ok v w') (h : K (a.put o.dst v) w') : o.wpIn F nF P a w K Q := by
  unfold Oper.wpIn
  refine ⟨by simp [Oper.about, ho], ?_⟩
  rw [Oper.semAt_plain F _ _ (by rw [ho]; intro c hc'; cases hc')]
  simp [execOp, ho, hr, Result.andThen]
  exact h
theorem operIn_entryStore (x s u : Operand) (t : TypeId) (ho : o.op = .entryStore t x s u) (hd : o.dst = none) (hr : (Instr.entryStore t (a.eval x) (a.eval s) (a.eval u)).run P w = .ok () w') (h : K a w') : o.wpIn F nF P a w K Q := by
  unfold Oper.wpIn
  refine ⟨by simp [Oper.about, ho], ?_⟩
  rw [Oper.semAt_plain F _ _ (by rw [ho]; intro c hc'; cases hc')]
  simp only [execOp, ho, hr, Result.andThen, Sem.run_bind, Sem.run_map]
  have h2 : K (a.put o.dst undef) w' := by rw [hd]; exact h
  exact h2
theorem operIn_makeMap (t : TypeId) (ho : o.op = .makeMap t none) (h : K (a.put o.dst (.map (some w.heap.size))) (w.alloc (.map #[] 0))) : o.wpIn F nF P a w K Q := by
  unfold Oper.wpIn
  refine ⟨by simp [Oper.about, ho], ?_⟩
  rw [Oper.semAt_plain F _ _ (by rw [ho]; intro c hc'; cases hc')]
  simp [execOp, ho, run_makeMap, Result.andThen]
  exact h
end
noncomputable def C19 : Code := Try.f19.body.getD .skip
set_option maxRecDepth 100000 in
set_option maxHeartbeats 4000000 in
theorem to0 (n : Nat) (W : World) (gp : Option Addr) (L cp : Nat)  (Q : Exit → Act → World → Prop) (a : Act) (h0 : SR [(0, .slice gp L cp)] 44 [] W a W)
    (hQ : ∀ a, SR [(0, .slice gp L cp), (2, .int .i64 0), (3, .int .i64 0)] 44 [] (W) a (W) → Q .normal a (W)) : (regOf 0 C19).wpIn Fence.wide n Try.prog Q a W := by
  simp only [regOf, C19, Try.f19, Option.getD, Nat.reduceBEq, Bool.false_eq_true, if_true, if_false]
  refine region_sq (fun k_ a w => match k_ with | 0 => SR [(0, .slice gp L cp)] 44 [] (W) a w | 1 => SR [(0, .slice gp L cp), (2, .int .i64 0)] 44 [] (W) a w | _ => SR [(0, .slice gp L cp), (2, .int .i64 0), (3, .int .i64 0)] 44 [] (W) a w) (show SR _ _ _ _ a W from h0) ⟨?_, ?_, trivial⟩ ?_
  · intro a w hI
    have hI : SR _ _ _ _ a w := hI
    have hw : w = W := hI.wp
    subst hw
    go_simp
    exact hI.put (d := 2) (by decide) (by simp)
  · intro a w hI
    have hI : SR _ _ _ _ a w := hI
    have hw : w = W := hI.wp
    subst hw
    go_simp
    exact hI.put (d := 3) (by decide) (by simp)
  · intro a w hI
    have hI : SR _ _ _ _ a w := hI
    have hw : w = W := hI.wp
    subst hw
    exact hQ a hI
set_option maxRecDepth 100000 in
set_option maxHeartbeats 4000000 in
theorem to1 (n : Nat) (W : World) (gp : Option Addr) (L cp : Nat)  (Q : Exit → Act → World → Prop) (a : Act) (h0 : SR [(0, .slice gp L cp), (2, .int .i64 0)] 44 [] W a W)
    (hQ : ∀ a, SR [(0, .slice gp L cp), (2, .int .i64 0), (4, .map (some W.heap.size))] 44 [] (W.alloc (.map #[] 0)) a (W.alloc (.map #[] 0)) → Q .normal a (W.alloc (.map #[] 0))) : (regOf 1 C19).wpIn Fence.wide n Try.prog Q a W := by
  simp only [regOf, C19, Try.f19, Option.getD, Nat.reduceBEq, Bool.false_eq_true, if_true, if_false]
  refine region_sq (fun k_ a w => match k_ with | 0 => SR [(0, .slice gp L cp), (2, .int .i64 0)] 44 [] (W) a w | 1 => SR [(0, .slice gp L cp), (2, .int .i64 0), (9, .map (some W.heap.size))] 44 [] (W.alloc (.map #[] 0)) a w | _ => SR [(0, .slice gp L cp), (2, .int .i64 0), (4, .map (some W.heap.size))] 44 [] (W.alloc (.map #[] 0)) a w) (show SR _ _ _ _ a W from h0) ⟨?_, ?_, trivial⟩ ?_
  · intro a w hI
    have hI : SR _ _ _ _ a w := hI
    have hw : w = W := hI.wp
    subst hw
    rw [if_pos (by simp [Region.wanted])]
    refine operIn_makeMap 86 rfl ?_
    exact hI.put (d := 9) (by decide) (by simp)
  · intro a w hI
    have hI : SR _ _ _ _ a w := hI
    have e9 := hI.g 9 rfl
    obtain rfl := hI.wp
    go_simp
    exact hI.put (d := 4) (by decide) (by simp)
  · intro a w hI
    have hI : SR _ _ _ _ a w := hI
    obtain rfl := hI.wp
    exact hQ a hI
set_option maxRecDepth 100000 in
set_option maxHeartbeats 4000000 in
theorem to2 (n : Nat) (W : World) (gp : Option Addr) (L cp : Nat) (mb : Nat) (Q : Exit → Act → World → Prop) (a : Act) (h0 : SR [(0, .slice gp L cp), (2, .int .i64 0), (4, .map (some mb))] 44 [] W a W)
    (hQ : ∀ a, SR [(2, .int .i64 0), (4, .map (some mb)), (10, .slice gp L cp), (11, .int .i64 L), (12, .int .i64 0)] 44 [] (W) a (W) → Q .normal a (W)) : (regOf 2 C19).wpIn Fence.wide n Try.prog Q a W := by
  simp only [regOf, C19, Try.f19, Option.getD, Nat.reduceBEq, Bool.false_eq_true, if_true, if_false]
  refine region_sq (fun k_ a w => match k_ with | 0 => SR [(0, .slice gp L cp), (2, .int .i64 0), (4, .map (some mb))] 44 [] (W) a w | 1 => SR [(2, .int .i64 0), (4, .map (some mb)), (10, .slice gp L cp)] 44 [] (W) a w | 2 => SR [(2, .int .i64 0), (4, .map (some mb)), (10, .slice gp L cp), (11, .int .i64 L)] 44 [] (W) a w | _ => SR [(2, .int .i64 0), (4, .map (some mb)), (10, .slice gp L cp), (11, .int .i64 L), (12, .int .i64 0)] 44 [] (W) a w) (show SR _ _ _ _ a W from h0) ⟨?_, ?_, ?_, trivial⟩ ?_
  · intro a w hI
    have hI : SR _ _ _ _ a w := hI
    have e0 := hI.g 0 rfl
    have hw : w = W := hI.wp
    subst hw
    go_simp
    exact hI.put (d := 10) (by decide) (by simp)
  · intro a w hI
    have hI : SR _ _ _ _ a w := hI
    have e10 := hI.g 10 rfl
    have hw : w = W := hI.wp
    subst hw
    go_simp
    exact hI.put (d := 11) (by decide) (by simp)
  · intro a w hI
    have hI : SR _ _ _ _ a w := hI
    have hw : w = W := hI.wp
    subst hw
    go_simp
    exact hI.put (d := 12) (by decide) (by simp)
  · intro a w hI
    have hI : SR _ _ _ _ a w := hI
    have hw : w = W := hI.wp
    subst hw
    exact hQ a hI
set_option maxRecDepth 100000 in
set_option maxHeartbeats 4000000 in
theorem to3 (n : Nat) (W : World) (gp : Option Addr) (L cp : Nat) (mb : Nat) (s : Int) (i : Nat)  (Q : Exit → Act → World → Prop) (a : Act) (h0 : SR [(2, .int .i64 s), (4, .map (some mb)), (10, .slice gp L cp), (11, .int .i64 L), (12, .int .i64 i)] 44 [] W a W)
    (hQ : ∀ a, SR [(2, .int .i64 s), (4, .map (some mb)), (10, .slice gp L cp), (11, .int .i64 L), (12, .int .i64 i), (13, .bool (decide ((i : Int) < L)))] 44 [] (W) a (W) → Q .normal a (W)) : (regOf 3 C19).wpIn Fence.wide n Try.prog Q a W := by
  simp only [regOf, C19, Try.f19, Option.getD, Nat.reduceBEq, Bool.false_eq_true, if_true, if_false]
  refine region_sq (fun k_ a w => match k_ with | 0 => SR [(2, .int .i64 s), (4, .map (some mb)), (10, .slice gp L cp), (11, .int .i64 L), (12, .int .i64 i)] 44 [] (W) a w | _ => SR [(2, .int .i64 s), (4, .map (some mb)), (10, .slice gp L cp), (11, .int .i64 L), (12, .int .i64 i), (13, .bool (decide ((i : Int) < L)))] 44 [] (W) a w) (show SR _ _ _ _ a W from h0) ⟨?_, trivial⟩ ?_
  · intro a w hI
    have hI : SR _ _ _ _ a w := hI
    have e12 := hI.g 12 rfl
    have e11 := hI.g 11 rfl
    have hw : w = W := hI.wp
    subst hw
    go_simp
    exact hI.put (d := 13) (by decide) (by simp)
  · intro a w hI
    have hI : SR _ _ _ _ a w := hI
    have hw : w = W := hI.wp
    subst hw
    exact hQ a hI
set_option maxRecDepth 100000 in
set_option maxHeartbeats 4000000 in
theorem to4 (n : Nat) (W : World) (g L cp mb : Nat) (s : Int) (i : Nat) (x y z : Int) (cv : Option Addr) (hi : i < L) (k0 : W.cell? ⟨g, i * 4, none⟩ = some (.int .i64 x)) (k1 : W.cell? ⟨g, i * 4 + 1, none⟩ = some (.int .i64 y)) (k2 : W.cell? ⟨g, i * 4 + 2, none⟩ = some (.int .i64 z)) (k3 : W.cell? ⟨g, i * 4 + 3, none⟩ = some (.pointer cv)) (Q : Exit → Act → World → Prop) (a : Act) (h0 : SR [(2, .int .i64 s), (4, .map (some mb)), (10, .slice (some ⟨g, 0, none⟩) L cp), (11, .int .i64 L), (12, .int .i64 i)] 44 [] W a W)
    (hQ : ∀ a, SR [(2, .int .i64 s), (4, .map (some mb)), (10, .slice (some ⟨g, 0, none⟩) L cp), (11, .int .i64 L), (12, .int .i64 i), (6, .pointer (some ⟨W.heap.size, 0, none⟩))] 44 [] (W.alloc (.cells #[.int .i64 x, .int .i64 y, .int .i64 z, .pointer cv] 58)) a (W.alloc (.cells #[.int .i64 x, .int .i64 y, .int .i64 z, .pointer cv] 58)) → Q .normal a (W.alloc (.cells #[.int .i64 x, .int .i64 y, .int .i64 z, .pointer cv] 58))) : (regOf 4 C19).wpIn Fence.wide n Try.prog Q a W := by
  simp only [regOf, C19, Try.f19, Option.getD, Nat.reduceBEq, Bool.false_eq_true, if_true, if_false]
  refine region_sq (fun k_ a w => match k_ with | 0 => SR [(2, .int .i64 s), (4, .map (some mb)), (10, .slice (some ⟨g, 0, none⟩) L cp), (11, .int .i64 L), (12, .int .i64 i)] 44 [] (W) a w | 1 => SR [(2, .int .i64 s), (4, .map (some mb)), (10, .slice (some ⟨g, 0, none⟩) L cp), (11, .int .i64 L), (12, .int .i64 i), (14, .pointer (some ⟨g, i * 4, none⟩))] 44 [] (W) a w | 2 => SR [(2, .int .i64 s), (4, .map (some mb)), (10, .slice (some ⟨g, 0, none⟩) L cp), (11, .int .i64 L), (12, .int .i64 i), (15, .agg #[.int .i64 x, .int .i64 y, .int .i64 z, .pointer cv])] 44 [] (W) a w | 3 => SR [(2, .int .i64 s), (4, .map (some mb)), (10, .slice (some ⟨g, 0, none⟩) L cp), (11, .int .i64 L), (12, .int .i64 i), (15, .agg #[.int .i64 x, .int .i64 y, .int .i64 z, .pointer cv]), (6, .pointer (some ⟨W.heap.size, 0, none⟩))] 44 [] (W.alloc (.cells #[.int .i64 0, .int .i64 0, .int .i64 0, .pointer none] 58)) a w | _ => SR [(2, .int .i64 s), (4, .map (some mb)), (10, .slice (some ⟨g, 0, none⟩) L cp), (11, .int .i64 L), (12, .int .i64 i), (6, .pointer (some ⟨W.heap.size, 0, none⟩))] 44 [] (W.alloc (.cells #[.int .i64 x, .int .i64 y, .int .i64 z, .pointer cv] 58)) a w) (show SR _ _ _ _ a W from h0) ⟨?_, ?_, ?_, ?_, trivial⟩ ?_
  · intro a w hI
    have hI : SR _ _ _ _ a w := hI
    have e10 := hI.g 10 rfl
    have e12 := hI.g 12 rfl
    have hw : w = W := hI.wp
    subst hw
    have q1_0 : (0 : Int) ≤ i := by omega
    have q2_0 : (i : Int) < L := by omega
    go_simp
    exact hI.put (d := 14) (by decide) (by simp)
  · intro a w hI
    have hI : SR _ _ _ _ a w := hI
    have e14 := hI.g 14 rfl
    have hw : w = W := hI.wp
    subst hw
    go_simp
    exact hI.put (d := 15) (by decide) (by simp)
  · intro a w hI
    have hI : SR _ _ _ _ a w := hI
    have hw : w = W := hI.wp
    subst hw
    go_simp
    exact hI.put (d := 6) (by decide) (by simp)
  · intro a w hI
    have hI : SR _ _ _ _ a w := hI
    have e6 := hI.g 6 rfl
    have e15 := hI.g 15 rfl
    obtain rfl := hI.wp
    go_simp
    exact SR.sub (kn' := [(2, .int .i64 s), (4, .map (some mb)), (10, .slice (some ⟨g, 0, none⟩) L cp), (11, .int .i64 L), (12, .int .i64 i), (6, .pointer (some ⟨W.heap.size, 0, none⟩))]) hI.none (by intro p hp; simp only [List.mem_cons, List.not_mem_nil, or_false] at hp ⊢; rcases hp with h | h | h | h | h | h <;> simp [h])
  · intro a w hI
    have hI : SR _ _ _ _ a w := hI
    obtain rfl := hI.wp
    exact hQ a hI
set_option maxRecDepth 100000 in
set_option maxHeartbeats 4000000 in
theorem to5 (n : Nat) {G : World → Prop} (hS : Stable G) (gp : Option Addr) (L cp : Nat) (mb : Nat) (s : Int) (i : Nat) (q : Nat) (x y z : Int) (cv : Option Addr) (k er : Int) (k3 : ∀ w, G w → w.cell? ⟨q, 3, none⟩ = some (.pointer cv)) (k0 : ∀ w, G w → w.cell? ⟨q, 0, none⟩ = some (.int .i64 x)) (k1 : ∀ w, G w → w.cell? ⟨q, 1, none⟩ = some (.int .i64 y)) (k2 : ∀ w, G w → w.cell? ⟨q, 2, none⟩ = some (.int .i64 z)) (hc : ∀ m w, G w → CallsIn Fence.wide m Try.prog 13 #[.pointer cv, .agg #[.int .i64 x, .int .i64 y, .int .i64 z]] w fun e w' => e = .returned (.tuple #[.int .i64 k, .int .i64 er]) ∧ Below w.heap.size w w') (Q : Exit → Act → World → Prop) (a : Act) (w : World) (h0 : SG [(2, .int .i64 s), (4, .map (some mb)), (10, .slice gp L cp), (11, .int .i64 L), (12, .int .i64 i), (6, .pointer (some ⟨q, 0, none⟩))] 44 G a w)
    (hQ : ∀ a w, SG [(2, .int .i64 s), (4, .map (some mb)), (10, .slice gp L cp), (11, .int .i64 L), (12, .int .i64 i), (6, .pointer (some ⟨q, 0, none⟩)), (7, .int .i64 k), (8, .int .i64 er)] 44 G a w → Q .normal a w) : (regOf 5 C19).wpIn Fence.wide n Try.prog Q a w := by
  simp only [regOf, C19, Try.f19, Option.getD, Nat.reduceBEq, Bool.false_eq_true, if_true, if_false]
  refine region_sq (fun k_ a w => match k_ with | 0 => SG [(2, .int .i64 s), (4, .map (some mb)), (10, .slice gp L cp), (11, .int .i64 L), (12, .int .i64 i), (6, .pointer (some ⟨q, 0, none⟩))] 44 G a w | 1 => SG [(2, .int .i64 s), (4, .map (some mb)), (10, .slice gp L cp), (11, .int .i64 L), (12, .int .i64 i), (6, .pointer (some ⟨q, 0, none⟩)), (17, .pointer (some ⟨q, 3, none⟩))] 44 G a w | 2 => SG [(2, .int .i64 s), (4, .map (some mb)), (10, .slice gp L cp), (11, .int .i64 L), (12, .int .i64 i), (6, .pointer (some ⟨q, 0, none⟩)), (18, .pointer cv)] 44 G a w | 3 => SG [(2, .int .i64 s), (4, .map (some mb)), (10, .slice gp L cp), (11, .int .i64 L), (12, .int .i64 i), (6, .pointer (some ⟨q, 0, none⟩)), (18, .pointer cv), (19, .pointer (some ⟨q, 0, none⟩))] 44 G a w | 4 => SG [(2, .int .i64 s), (4, .map (some mb)), (10, .slice gp L cp), (11, .int .i64 L), (12, .int .i64 i), (6, .pointer (some ⟨q, 0, none⟩)), (18, .pointer cv), (20, .agg #[.int .i64 x, .int .i64 y, .int .i64 z])] 44 G a w | 5 => SG [(2, .int .i64 s), (4, .map (some mb)), (10, .slice gp L cp), (11, .int .i64 L), (12, .int .i64 i), (6, .pointer (some ⟨q, 0, none⟩)), (21, .tuple #[.int .i64 k, .int .i64 er])] 44 G a w | 6 => SG [(2, .int .i64 s), (4, .map (some mb)), (10, .slice gp L cp), (11, .int .i64 L), (12, .int .i64 i), (6, .pointer (some ⟨q, 0, none⟩)), (16, .tuple #[.int .i64 k, .int .i64 er])] 44 G a w | 7 => SG [(2, .int .i64 s), (4, .map (some mb)), (10, .slice gp L cp), (11, .int .i64 L), (12, .int .i64 i), (6, .pointer (some ⟨q, 0, none⟩)), (16, .tuple #[.int .i64 k, .int .i64 er]), (22, .int .i64 k)] 44 G a w | 8 => SG [(2, .int .i64 s), (4, .map (some mb)), (10, .slice gp L cp), (11, .int .i64 L), (12, .int .i64 i), (6, .pointer (some ⟨q, 0, none⟩)), (22, .int .i64 k), (23, .int .i64 er)] 44 G a w | 9 => SG [(2, .int .i64 s), (4, .map (some mb)), (10, .slice gp L cp), (11, .int .i64 L), (12, .int .i64 i), (6, .pointer (some ⟨q, 0, none⟩)), (23, .int .i64 er), (7, .int .i64 k)] 44 G a w | _ => SG [(2, .int .i64 s), (4, .map (some mb)), (10, .slice gp L cp), (11, .int .i64 L), (12, .int .i64 i), (6, .pointer (some ⟨q, 0, none⟩)), (7, .int .i64 k), (8, .int .i64 er)] 44 G a w) (show SG _ _ G a w from h0) ⟨?_, ?_, ?_, ?_, ?_, ?_, ?_, ?_, ?_, ?_, trivial⟩ ?_
  · intro a w hI
    have hI : SG _ _ G a w := hI
    have e6 := hI.g 6 rfl
    go_simp
    exact hI.put (d := 17) (by decide) (by simp) hI.wp
  · intro a w hI
    have hI : SG _ _ G a w := hI
    have e17 := hI.g 17 rfl
    have cc0 := k3 w hI.wp
    go_simp
    exact hI.put (d := 18) (by decide) (by simp) hI.wp
  · intro a w hI
    have hI : SG _ _ G a w := hI
    have e6 := hI.g 6 rfl
    go_simp
    exact hI.put (d := 19) (by decide) (by simp) hI.wp
  · intro a w hI
    have hI : SG _ _ G a w := hI
    have e19 := hI.g 19 rfl
    have cc0 := k0 w hI.wp
    have cc1 := k1 w hI.wp
    have cc2 := k2 w hI.wp
    go_simp
    exact hI.put (d := 20) (by decide) (by simp) hI.wp
  · intro a w hI
    have hI : SG _ _ G a w := hI
    have e18 := hI.g 18 rfl
    have e20 := hI.g 20 rfl
    go_simp
    refine ⟨trivial, fun h => (by cases h), (hc (n - 1) w hI.wp).mono ?_⟩
    rintro e w' ⟨rfl, hb2⟩
    exact hI.put (d := 21) (by decide) (by simp) (hS _ _ hI.wp hb2)
  · intro a w hI
    have hI : SG _ _ G a w := hI
    have e21 := hI.g 21 rfl
    go_simp
    exact hI.put (d := 16) (by decide) (by simp) hI.wp
  · intro a w hI
    have hI : SG _ _ G a w := hI
    have e16 := hI.g 16 rfl
    go_simp
    exact hI.put (d := 22) (by decide) (by simp) hI.wp
  · intro a w hI
    have hI : SG _ _ G a w := hI
    have e16 := hI.g 16 rfl
    go_simp
    exact hI.put (d := 23) (by decide) (by simp) hI.wp
  · intro a w hI
    have hI : SG _ _ G a w := hI
    have e22 := hI.g 22 rfl
    go_simp
    exact hI.put (d := 7) (by decide) (by simp) hI.wp
  · intro a w hI
    have hI : SG _ _ G a w := hI
    have e23 := hI.g 23 rfl
    go_simp
    exact hI.put (d := 8) (by decide) (by simp) hI.wp
  · intro a w hI
    have hI : SG _ _ G a w := hI
    exact hQ a w hI
set_option maxRecDepth 100000 in
set_option maxHeartbeats 4000000 in
theorem to6n (n : Nat) (W : World) (gp : Option Addr) (L cp : Nat) (mb : Nat) (s : Int) (i : Nat) (q : Nat) (k : Int) (er : Int) (Q : Exit → Act → World → Prop) (a : Act) (h0 : SR [(2, .int .i64 s), (4, .map (some mb)), (10, .slice gp L cp), (11, .int .i64 L), (12, .int .i64 i), (6, .pointer (some ⟨q, 0, none⟩)), (7, .int .i64 k), (8, .int .i64 er)] 44 [] W a W)
    (hQ : ∀ a, SR [(8, .int .i64 er), (25, .bool (er != 0))] 44 [] (W) a (W) → Q .normal a (W)) : (regOf 6 C19).wpIn Fence.wide n Try.prog Q a W := by
  simp only [regOf, C19, Try.f19, Option.getD, Nat.reduceBEq, Bool.false_eq_true, if_true, if_false]
  refine region_sq (fun k_ a w => match k_ with | 0 => SR [(8, .int .i64 er)] 44 [] (W) a w | 1 => SR [(8, .int .i64 er), (24, .int .i64 er)] 44 [] (W) a w | _ => SR [(8, .int .i64 er), (25, .bool (er != 0))] 44 [] (W) a w) (show SR _ _ _ _ a W from h0.sub (by intro p hp; simp only [List.mem_cons, List.not_mem_nil, or_false] at hp ⊢; simp [hp])) ⟨?_, ?_, trivial⟩ ?_
  · intro a w hI
    have hI : SR _ _ _ _ a w := hI
    have e8 := hI.g 8 rfl
    have hw : w = W := hI.wp
    subst hw
    go_simp
    exact hI.put (d := 24) (by decide) (by simp)
  · intro a w hI
    have hI : SR _ _ _ _ a w := hI
    have e24 := hI.g 24 rfl
    have hw : w = W := hI.wp
    subst hw
    go_simp
    exact hI.put (d := 25) (by decide) (by simp)
  · intro a w hI
    have hI : SR _ _ _ _ a w := hI
    have hw : w = W := hI.wp
    subst hw
    exact hQ a hI
set_option maxRecDepth 100000 in
set_option maxHeartbeats 4000000 in
theorem to6y (n : Nat) (W : World) (gp : Option Addr) (L cp : Nat) (mb : Nat) (s : Int) (i : Nat) (q : Nat) (k : Int)  (Q : Exit → Act → World → Prop) (a : Act) (h0 : SR [(2, .int .i64 s), (4, .map (some mb)), (10, .slice gp L cp), (11, .int .i64 L), (12, .int .i64 i), (6, .pointer (some ⟨q, 0, none⟩)), (7, .int .i64 k), (8, .int .i64 0)] 44 [] W a W)
    (hQ : ∀ a, SR [(2, .int .i64 s), (4, .map (some mb)), (10, .slice gp L cp), (11, .int .i64 L), (12, .int .i64 i), (6, .pointer (some ⟨q, 0, none⟩)), (7, .int .i64 k), (25, .bool false)] 44 [] (W) a (W) → Q .normal a (W)) : (regOf 6 C19).wpIn Fence.wide n Try.prog Q a W := by
  simp only [regOf, C19, Try.f19, Option.getD, Nat.reduceBEq, Bool.false_eq_true, if_true, if_false]
  refine region_sq (fun k_ a w => match k_ with | 0 => SR [(2, .int .i64 s), (4, .map (some mb)), (10, .slice gp L cp), (11, .int .i64 L), (12, .int .i64 i), (6, .pointer (some ⟨q, 0, none⟩)), (7, .int .i64 k), (8, .int .i64 0)] 44 [] (W) a w | 1 => SR [(2, .int .i64 s), (4, .map (some mb)), (10, .slice gp L cp), (11, .int .i64 L), (12, .int .i64 i), (6, .pointer (some ⟨q, 0, none⟩)), (7, .int .i64 k), (24, .int .i64 0)] 44 [] (W) a w | _ => SR [(2, .int .i64 s), (4, .map (some mb)), (10, .slice gp L cp), (11, .int .i64 L), (12, .int .i64 i), (6, .pointer (some ⟨q, 0, none⟩)), (7, .int .i64 k), (25, .bool false)] 44 [] (W) a w) (show SR _ _ _ _ a W from h0) ⟨?_, ?_, trivial⟩ ?_
  · intro a w hI
    have hI : SR _ _ _ _ a w := hI
    have e8 := hI.g 8 rfl
    have hw : w = W := hI.wp
    subst hw
    go_simp
    exact hI.put (d := 24) (by decide) (by simp)
  · intro a w hI
    have hI : SR _ _ _ _ a w := hI
    have e24 := hI.g 24 rfl
    have hw : w = W := hI.wp
    subst hw
    go_simp
    exact hI.put (d := 25) (by decide) (by simp)
  · intro a w hI
    have hI : SR _ _ _ _ a w := hI
    have hw : w = W := hI.wp
    subst hw
    exact hQ a hI
set_option maxRecDepth 100000 in
set_option maxHeartbeats 4000000 in
theorem to7 (n : Nat) (W : World) (er : Int) (Q : Exit → Act → World → Prop) (a : Act) (h0 : SR [(8, .int .i64 er)] 44 [] W a W)
    (hQ : ∀ a, SR [(2, .int .i64 0), (3, .int .i64 er)] 44 [] (W) a (W) → Q .normal a (W)) : (regOf 7 C19).wpIn Fence.wide n Try.prog Q a W := by
  simp only [regOf, C19, Try.f19, Option.getD, Nat.reduceBEq, Bool.false_eq_true, if_true, if_false]
  refine region_sq (fun k_ a w => match k_ with | 0 => SR [(8, .int .i64 er)] 44 [] (W) a w | 1 => SR [(26, .int .i64 er)] 44 [] (W) a w | 2 => SR [(26, .int .i64 er), (2, .int .i64 0)] 44 [] (W) a w | _ => SR [(2, .int .i64 0), (3, .int .i64 er)] 44 [] (W) a w) (show SR _ _ _ _ a W from h0) ⟨?_, ?_, ?_, trivial⟩ ?_
  · intro a w hI
    have hI : SR _ _ _ _ a w := hI
    have e8 := hI.g 8 rfl
    have hw : w = W := hI.wp
    subst hw
    go_simp
    exact hI.put (d := 26) (by decide) (by simp)
  · intro a w hI
    have hI : SR _ _ _ _ a w := hI
    have hw : w = W := hI.wp
    subst hw
    go_simp
    exact hI.put (d := 2) (by decide) (by simp)
  · intro a w hI
    have hI : SR _ _ _ _ a w := hI
    have e26 := hI.g 26 rfl
    have hw : w = W := hI.wp
    subst hw
    go_simp
    exact hI.put (d := 3) (by decide) (by simp)
  · intro a w hI
    have hI : SR _ _ _ _ a w := hI
    have hw : w = W := hI.wp
    subst hw
    exact hQ a hI
set_option maxRecDepth 100000 in
set_option maxHeartbeats 4000000 in
theorem to8y (n : Nat) (W : World) (gp : Option Addr) (L cp : Nat) (mb : Nat) (s : Int) (i : Nat) (q : Nat) (k : Int) (x y z : Int) (hlk : (Instr.lookup 86 (.map (some mb)) (spotV x y z) false).run Try.prog W = .ok (.int .i64 1) W) (k0 : W.cell? ⟨q, 0, none⟩ = some (.int .i64 x)) (k1 : W.cell? ⟨q, 1, none⟩ = some (.int .i64 y)) (k2 : W.cell? ⟨q, 2, none⟩ = some (.int .i64 z)) (Q : Exit → Act → World → Prop) (a : Act) (h0 : SR [(2, .int .i64 s), (4, .map (some mb)), (10, .slice gp L cp), (11, .int .i64 L), (12, .int .i64 i), (6, .pointer (some ⟨q, 0, none⟩)), (7, .int .i64 k)] 44 [] W a W)
    (hQ : ∀ a, SR [(2, .int .i64 s), (4, .map (some mb)), (10, .slice gp L cp), (11, .int .i64 L), (12, .int .i64 i), (6, .pointer (some ⟨q, 0, none⟩)), (7, .int .i64 k), (31, .bool true)] 44 [] (W) a (W) → Q .normal a (W)) : (regOf 8 C19).wpIn Fence.wide n Try.prog Q a W := by
  simp only [regOf, C19, Try.f19, Option.getD, Nat.reduceBEq, Bool.false_eq_true, if_true, if_false]
  refine region_sq (fun k_ a w => match k_ with | 0 => SR [(2, .int .i64 s), (4, .map (some mb)), (10, .slice gp L cp), (11, .int .i64 L), (12, .int .i64 i), (6, .pointer (some ⟨q, 0, none⟩)), (7, .int .i64 k)] 44 [] (W) a w | 1 => SR [(2, .int .i64 s), (4, .map (some mb)), (10, .slice gp L cp), (11, .int .i64 L), (12, .int .i64 i), (6, .pointer (some ⟨q, 0, none⟩)), (7, .int .i64 k), (27, .map (some mb))] 44 [] (W) a w | 2 => SR [(2, .int .i64 s), (4, .map (some mb)), (10, .slice gp L cp), (11, .int .i64 L), (12, .int .i64 i), (6, .pointer (some ⟨q, 0, none⟩)), (7, .int .i64 k), (27, .map (some mb)), (28, .pointer (some ⟨q, 0, none⟩))] 44 [] (W) a w | 3 => SR [(2, .int .i64 s), (4, .map (some mb)), (10, .slice gp L cp), (11, .int .i64 L), (12, .int .i64 i), (6, .pointer (some ⟨q, 0, none⟩)), (7, .int .i64 k), (27, .map (some mb)), (29, .agg #[.int .i64 x, .int .i64 y, .int .i64 z])] 44 [] (W) a w | 4 => SR [(2, .int .i64 s), (4, .map (some mb)), (10, .slice gp L cp), (11, .int .i64 L), (12, .int .i64 i), (6, .pointer (some ⟨q, 0, none⟩)), (7, .int .i64 k), (30, .int .i64 1)] 44 [] (W) a w | _ => SR [(2, .int .i64 s), (4, .map (some mb)), (10, .slice gp L cp), (11, .int .i64 L), (12, .int .i64 i), (6, .pointer (some ⟨q, 0, none⟩)), (7, .int .i64 k), (31, .bool true)] 44 [] (W) a w) (show SR _ _ _ _ a W from h0) ⟨?_, ?_, ?_, ?_, ?_, trivial⟩ ?_
  · intro a w hI
    have hI : SR _ _ _ _ a w := hI
    have e4 := hI.g 4 rfl
    have hw : w = W := hI.wp
    subst hw
    go_simp
    exact hI.put (d := 27) (by decide) (by simp)
  · intro a w hI
    have hI : SR _ _ _ _ a w := hI
    have e6 := hI.g 6 rfl
    have hw : w = W := hI.wp
    subst hw
    go_simp
    exact hI.put (d := 28) (by decide) (by simp)
  · intro a w hI
    have hI : SR _ _ _ _ a w := hI
    have e28 := hI.g 28 rfl
    have hw : w = W := hI.wp
    subst hw
    go_simp
    exact hI.put (d := 29) (by decide) (by simp)
  · intro a w hI
    have hI : SR _ _ _ _ a w := hI
    have e27 := hI.g 27 rfl
    have e29 := hI.g 29 rfl
    have hw : w = W := hI.wp
    subst hw
    rw [if_pos (by simp [Region.wanted])]
    refine operIn_lookup (.tmp 27) (.tmp 29) 86 rfl (.int .i64 1) (by rw [eval_tmp, eval_tmp, e27, e29]; exact hlk) ?_
    exact hI.put (d := 30) (by decide) (by simp)
  · intro a w hI
    have hI : SR _ _ _ _ a w := hI
    have e30 := hI.g 30 rfl
    have hw : w = W := hI.wp
    subst hw
    go_simp
    exact hI.put (d := 31) (by decide) (by simp)
  · intro a w hI
    have hI : SR _ _ _ _ a w := hI
    have hw : w = W := hI.wp
    subst hw
    exact hQ a hI
set_option maxRecDepth 100000 in
set_option maxHeartbeats 4000000 in
theorem to8n (n : Nat) (W : World) (gp : Option Addr) (L cp : Nat) (mb : Nat) (s : Int) (i : Nat) (q : Nat) (k : Int) (x y z : Int) (hlk : (Instr.lookup 86 (.map (some mb)) (spotV x y z) false).run Try.prog W = .ok (.int .i64 0) W) (k0 : W.cell? ⟨q, 0, none⟩ = some (.int .i64 x)) (k1 : W.cell? ⟨q, 1, none⟩ = some (.int .i64 y)) (k2 : W.cell? ⟨q, 2, none⟩ = some (.int .i64 z)) (Q : Exit → Act → World → Prop) (a : Act) (h0 : SR [(2, .int .i64 s), (4, .map (some mb)), (10, .slice gp L cp), (11, .int .i64 L), (12, .int .i64 i), (6, .pointer (some ⟨q, 0, none⟩)), (7, .int .i64 k)] 44 [] W a W)
    (hQ : ∀ a, SR [(2, .int .i64 s), (4, .map (some mb)), (10, .slice gp L cp), (11, .int .i64 L), (12, .int .i64 i), (6, .pointer (some ⟨q, 0, none⟩)), (7, .int .i64 k), (31, .bool false)] 44 [] (W) a (W) → Q .normal a (W)) : (regOf 8 C19).wpIn Fence.wide n Try.prog Q a W := by
  simp only [regOf, C19, Try.f19, Option.getD, Nat.reduceBEq, Bool.false_eq_true, if_true, if_false]
  refine region_sq (fun k_ a w => match k_ with | 0 => SR [(2, .int .i64 s), (4, .map (some mb)), (10, .slice gp L cp), (11, .int .i64 L), (12, .int .i64 i), (6, .pointer (some ⟨q, 0, none⟩)), (7, .int .i64 k)] 44 [] (W) a w | 1 => SR [(2, .int .i64 s), (4, .map (some mb)), (10, .slice gp L cp), (11, .int .i64 L), (12, .int .i64 i), (6, .pointer (some ⟨q, 0, none⟩)), (7, .int .i64 k), (27, .map (some mb))] 44 [] (W) a w | 2 => SR [(2, .int .i64 s), (4, .map (some mb)), (10, .slice gp L cp), (11, .int .i64 L), (12, .int .i64 i), (6, .pointer (some ⟨q, 0, none⟩)), (7, .int .i64 k), (27, .map (some mb)), (28, .pointer (some ⟨q, 0, none⟩))] 44 [] (W) a w | 3 => SR [(2, .int .i64 s), (4, .map (some mb)), (10, .slice gp L cp), (11, .int .i64 L), (12, .int .i64 i), (6, .pointer (some ⟨q, 0, none⟩)), (7, .int .i64 k), (27, .map (some mb)), (29, .agg #[.int .i64 x, .int .i64 y, .int .i64 z])] 44 [] (W) a w | 4 => SR [(2, .int .i64 s), (4, .map (some mb)), (10, .slice gp L cp), (11, .int .i64 L), (12, .int .i64 i), (6, .pointer (some ⟨q, 0, none⟩)), (7, .int .i64 k), (30, .int .i64 0)] 44 [] (W) a w | _ => SR [(2, .int .i64 s), (4, .map (some mb)), (10, .slice gp L cp), (11, .int .i64 L), (12, .int .i64 i), (6, .pointer (some ⟨q, 0, none⟩)), (7, .int .i64 k), (31, .bool false)] 44 [] (W) a w) (show SR _ _ _ _ a W from h0) ⟨?_, ?_, ?_, ?_, ?_, trivial⟩ ?_
  · intro a w hI
    have hI : SR _ _ _ _ a w := hI
    have e4 := hI.g 4 rfl
    have hw : w = W := hI.wp
    subst hw
    go_simp
    exact hI.put (d := 27) (by decide) (by simp)
  · intro a w hI
    have hI : SR _ _ _ _ a w := hI
    have e6 := hI.g 6 rfl
    have hw : w = W := hI.wp
    subst hw
    go_simp
    exact hI.put (d := 28) (by decide) (by simp)
  · intro a w hI
    have hI : SR _ _ _ _ a w := hI
    have e28 := hI.g 28 rfl
    have hw : w = W := hI.wp
    subst hw
    go_simp
    exact hI.put (d := 29) (by decide) (by simp)
  · intro a w hI
    have hI : SR _ _ _ _ a w := hI
    have e27 := hI.g 27 rfl
    have e29 := hI.g 29 rfl
    have hw : w = W := hI.wp
    subst hw
    rw [if_pos (by simp [Region.wanted])]
    refine operIn_lookup (.tmp 27) (.tmp 29) 86 rfl (.int .i64 0) (by rw [eval_tmp, eval_tmp, e27, e29]; exact hlk) ?_
    exact hI.put (d := 30) (by decide) (by simp)
  · intro a w hI
    have hI : SR _ _ _ _ a w := hI
    have e30 := hI.g 30 rfl
    have hw : w = W := hI.wp
    subst hw
    go_simp
    exact hI.put (d := 31) (by decide) (by simp)
  · intro a w hI
    have hI : SR _ _ _ _ a w := hI
    have hw : w = W := hI.wp
    subst hw
    exact hQ a hI
set_option maxRecDepth 100000 in
set_option maxHeartbeats 4000000 in
theorem to9 (n : Nat) (W : World)  (Q : Exit → Act → World → Prop) (a : Act) (h0 : SR [] 44 [] W a W)
    (hQ : ∀ a, SR [(2, .int .i64 0), (3, .int .i64 6)] 44 [] (W) a (W) → Q .normal a (W)) : (regOf 9 C19).wpIn Fence.wide n Try.prog Q a W := by
  simp only [regOf, C19, Try.f19, Option.getD, Nat.reduceBEq, Bool.false_eq_true, if_true, if_false]
  refine region_sq (fun k_ a w => match k_ with | 0 => SR [] 44 [] (W) a w | 1 => SR [(2, .int .i64 0)] 44 [] (W) a w | _ => SR [(2, .int .i64 0), (3, .int .i64 6)] 44 [] (W) a w) (show SR _ _ _ _ a W from h0) ⟨?_, ?_, trivial⟩ ?_
  · intro a w hI
    have hI : SR _ _ _ _ a w := hI
    have hw : w = W := hI.wp
    subst hw
    go_simp
    exact hI.put (d := 2) (by decide) (by simp)
  · intro a w hI
    have hI : SR _ _ _ _ a w := hI
    have hw : w = W := hI.wp
    subst hw
    go_simp
    exact hI.put (d := 3) (by decide) (by simp)
  · intro a w hI
    have hI : SR _ _ _ _ a w := hI
    have hw : w = W := hI.wp
    subst hw
    exact hQ a hI
set_option maxRecDepth 100000 in
set_option maxHeartbeats 4000000 in
theorem to11 (n : Nat) (W : World) (gp : Option Addr) (L cp : Nat) (mb : Nat) (s : Int) (i : Nat) (k : Int) (h1 : -9223372036854775808 ≤ s + k) (h2 : s + k ≤ 9223372036854775807) (Q : Exit → Act → World → Prop) (a : Act) (h0 : SR [(2, .int .i64 s), (4, .map (some mb)), (10, .slice gp L cp), (11, .int .i64 L), (12, .int .i64 i), (7, .int .i64 k)] 44 [] W a W)
    (hQ : ∀ a, SR [(2, .int .i64 ((s : Int) + k)), (4, .map (some mb)), (10, .slice gp L cp), (11, .int .i64 L), (12, .int .i64 i)] 44 [] (W) a (W) → Q .normal a (W)) : (regOf 11 C19).wpIn Fence.wide n Try.prog Q a W := by
  simp only [regOf, C19, Try.f19, Option.getD, Nat.reduceBEq, Bool.false_eq_true, if_true, if_false]
  refine region_sq (fun k_ a w => match k_ with | 0 => SR [(2, .int .i64 s), (4, .map (some mb)), (10, .slice gp L cp), (11, .int .i64 L), (12, .int .i64 i), (7, .int .i64 k)] 44 [] (W) a w | 1 => SR [(4, .map (some mb)), (10, .slice gp L cp), (11, .int .i64 L), (12, .int .i64 i), (7, .int .i64 k), (39, .int .i64 s)] 44 [] (W) a w | 2 => SR [(4, .map (some mb)), (10, .slice gp L cp), (11, .int .i64 L), (12, .int .i64 i), (39, .int .i64 s), (40, .int .i64 k)] 44 [] (W) a w | 3 => SR [(4, .map (some mb)), (10, .slice gp L cp), (11, .int .i64 L), (12, .int .i64 i), (41, .int .i64 ((s : Int) + k))] 44 [] (W) a w | _ => SR [(4, .map (some mb)), (10, .slice gp L cp), (11, .int .i64 L), (12, .int .i64 i), (2, .int .i64 ((s : Int) + k))] 44 [] (W) a w) (show SR _ _ _ _ a W from h0) ⟨?_, ?_, ?_, ?_, trivial⟩ ?_
  · intro a w hI
    have hI : SR _ _ _ _ a w := hI
    have e2 := hI.g 2 rfl
    have hw : w = W := hI.wp
    subst hw
    go_simp
    exact hI.put (d := 39) (by decide) (by simp)
  · intro a w hI
    have hI : SR _ _ _ _ a w := hI
    have e7 := hI.g 7 rfl
    have hw : w = W := hI.wp
    subst hw
    go_simp
    exact hI.put (d := 40) (by decide) (by simp)
  · intro a w hI
    have hI : SR _ _ _ _ a w := hI
    have e39 := hI.g 39 rfl
    have e40 := hI.g 40 rfl
    have hw : w = W := hI.wp
    subst hw
    have hw2 : IntKind.i64.wrap ((s : Int) + k) = (s : Int) + k := IntWalk.i64_in _ (by omega)
    go_simp
    exact hI.put (d := 41) (by decide) (by simp)
  · intro a w hI
    have hI : SR _ _ _ _ a w := hI
    have e41 := hI.g 41 rfl
    have hw : w = W := hI.wp
    subst hw
    go_simp
    exact hI.put (d := 2) (by decide) (by simp)
  · intro a w hI
    have hI : SR _ _ _ _ a w := hI
    have hw : w = W := hI.wp
    subst hw
    exact hQ a (hI.sub (by intro p hp; simp only [List.mem_cons, List.not_mem_nil, or_false] at hp ⊢; rcases hp with h | h | h | h | h <;> simp [h]))
set_option maxRecDepth 100000 in
set_option maxHeartbeats 4000000 in
theorem to12 (n : Nat) (W : World) (gp : Option Addr) (L cp : Nat) (mb : Nat) (s : Int) (i : Nat) (hi : i < L) (hL : L ≤ 4294967296) (Q : Exit → Act → World → Prop) (a : Act) (h0 : SR [(2, .int .i64 s), (4, .map (some mb)), (10, .slice gp L cp), (11, .int .i64 L), (12, .int .i64 i)] 44 [] W a W)
    (hQ : ∀ a, SR [(2, .int .i64 s), (4, .map (some mb)), (10, .slice gp L cp), (11, .int .i64 L), (12, .int .i64 ((i : Int) + 1))] 44 [] (W) a (W) → Q .normal a (W)) : (regOf 12 C19).wpIn Fence.wide n Try.prog Q a W := by
  simp only [regOf, C19, Try.f19, Option.getD, Nat.reduceBEq, Bool.false_eq_true, if_true, if_false]
  refine region_sq (fun k_ a w => match k_ with | 0 => SR [(2, .int .i64 s), (4, .map (some mb)), (10, .slice gp L cp), (11, .int .i64 L), (12, .int .i64 i)] 44 [] (W) a w | 1 => SR [(2, .int .i64 s), (4, .map (some mb)), (10, .slice gp L cp), (11, .int .i64 L), (42, .int .i64 ((i : Int) + 1))] 44 [] (W) a w | _ => SR [(2, .int .i64 s), (4, .map (some mb)), (10, .slice gp L cp), (11, .int .i64 L), (12, .int .i64 ((i : Int) + 1))] 44 [] (W) a w) (show SR _ _ _ _ a W from h0) ⟨?_, ?_, trivial⟩ ?_
  · intro a w hI
    have hI : SR _ _ _ _ a w := hI
    have e12 := hI.g 12 rfl
    have hw : w = W := hI.wp
    subst hw
    have hw0 : IntKind.i64.wrap ((i : Int) + 1) = (i : Int) + 1 := IntWalk.i64_in _ (by omega)
    go_simp
    exact hI.put (d := 42) (by decide) (by simp)
  · intro a w hI
    have hI : SR _ _ _ _ a w := hI
    have e42 := hI.g 42 rfl
    have hw : w = W := hI.wp
    subst hw
    go_simp
    exact hI.put (d := 12) (by decide) (by simp)
  · intro a w hI
    have hI : SR _ _ _ _ a w := hI
    have hw : w = W := hI.wp
    subst hw
    exact hQ a hI
set_option maxRecDepth 100000 in
set_option maxHeartbeats 4000000 in
theorem to13 (n : Nat) (W : World) (s : Int) (Q : Exit → Act → World → Prop) (a : Act) (h0 : SR [(2, .int .i64 s)] 44 [] W a W)
    (hQ : ∀ a, SR [(2, .int .i64 s), (3, .int .i64 0)] 44 [] (W) a (W) → Q .normal a (W)) : (regOf 13 C19).wpIn Fence.wide n Try.prog Q a W := by
  simp only [regOf, C19, Try.f19, Option.getD, Nat.reduceBEq, Bool.false_eq_true, if_true, if_false]
  refine region_sq (fun k_ a w => match k_ with | 0 => SR [(2, .int .i64 s)] 44 [] (W) a w | 1 => SR [(43, .int .i64 s)] 44 [] (W) a w | 2 => SR [(2, .int .i64 s)] 44 [] (W) a w | _ => SR [(2, .int .i64 s), (3, .int .i64 0)] 44 [] (W) a w) (show SR _ _ _ _ a W from h0) ⟨?_, ?_, ?_, trivial⟩ ?_
  · intro a w hI
    have hI : SR _ _ _ _ a w := hI
    have e2 := hI.g 2 rfl
    have hw : w = W := hI.wp
    subst hw
    go_simp
    exact hI.put (d := 43) (by decide) (by simp)
  · intro a w hI
    have hI : SR _ _ _ _ a w := hI
    have e43 := hI.g 43 rfl
    have hw : w = W := hI.wp
    subst hw
    go_simp
    exact hI.put (d := 2) (by decide) (by simp)
  · intro a w hI
    have hI : SR _ _ _ _ a w := hI
    have hw : w = W := hI.wp
    subst hw
    go_simp
    exact hI.put (d := 3) (by decide) (by simp)
  · intro a w hI
    have hI : SR _ _ _ _ a w := hI
    have hw : w = W := hI.wp
    subst hw
    exact hQ a hI
/-! ### A spot is met -/
abbrev boxO (p : Sp3) (cv : Option Addr) : Obj := .cells #[.int .i64 p.1, .int .i64 p.2.1, .int .i64 p.2.2, .pointer cv] 58 (0, 0)
structure W10 (w0 : World) (mb q : Nat) (l : List Sp3) (p : Sp3) (cv : Option Addr) (X : Nat → Bool) (w : World) : Prop where
  a : X 5 = false → Has w0 [(mb, .map (entM l) l.length), (q, boxO p cv)] w
  b : X 5 = true → X 7 = false → Has w0 [(mb, .map (midM l p) (l.length + 1)), (q, boxO p cv)] w
  c : X 7 = true → Has w0 [(mb, .map (entM (l ++ [p])) (l.length + 1)), (q, boxO p cv)] w
section
variable {w0 : World} {mb q : Nat} {l : List Sp3} {p : Sp3} {cv : Option Addr} {X : Nat → Bool} {w : World}
theorem W10.step (h : W10 w0 mb q l p cv X w) {k : Nat} (h5 : k ≠ 5) (h7 : k ≠ 7) : W10 w0 mb q l p cv (addX X k) w := by
  have e5 : addX X k 5 = X 5 := addX_ne X (Ne.symm h5)
  have e7 : addX X k 7 = X 7 := addX_ne X (Ne.symm h7)
  exact ⟨fun h1 => h.a (e5 ▸ h1), fun h1 h2 => h.b (e5 ▸ h1) (e7 ▸ h2), fun h1 => h.c (e7 ▸ h1)⟩
theorem W10.box (h : W10 w0 mb q l p cv X w) : ∃ o, Has w0 [(q, boxO p cv), o] w := by
  cases h5 : X 5 with
  | false => exact ⟨_, (h.a h5).swap⟩
  | true =>
    cases h7 : X 7 with
    | false => exact ⟨_, (h.b h5 h7).swap⟩
    | true => exact ⟨_, (h.c h7).swap⟩
set_option maxRecDepth 100000 in
set_option maxHeartbeats 4000000 in
theorem to10 (n : Nat) (gp : Option Addr) (L cp : Nat) (s : Int) (i : Nat) (k : Int) (hl : ∀ q ∈ l, okS q) (hp : okS p) (hm : p ∉ l) (Q : Exit → Act → World → Prop) (a : Act)
    (h0 : SG [(2, .int .i64 s), (4, .map (some mb)), (10, .slice gp L cp), (11, .int .i64 L), (12, .int .i64 i), (6, .pointer (some ⟨q, 0, none⟩)), (7, .int .i64 k)] 44 (Has w0 [(mb, .map (entM l) l.length), (q, boxO p cv)]) a w)
    (hQ : ∀ a w, SG [(2, .int .i64 s), (4, .map (some mb)), (10, .slice gp L cp), (11, .int .i64 L), (12, .int .i64 i), (7, .int .i64 k)] 44 (Has w0 [(mb, .map (entM (l ++ [p])) (l.length + 1)), (q, boxO p cv)]) a w → Q .normal a w) : (regOf 10 C19).wpIn Fence.wide n Try.prog Q a w := by
  have hmix : Try.prog.follows .mixedOrders = true := by kernel_rfl
  simp only [regOf, C19, Try.f19, Option.getD, Nat.reduceBEq, Bool.false_eq_true, if_true, if_false]
  refine region_inv (RI [(2, .int .i64 s), (4, .map (some mb)), (10, .slice gp L cp), (11, .int .i64 L), (12, .int .i64 i), (6, .pointer (some ⟨q, 0, none⟩)), (7, .int .i64 k)]
    [(0, 32, .map (some mb)), (1, 33, .pointer (some ⟨q, 0, none⟩)), (2, 34, sv p), (3, 35, .int .i64 0), (4, 36, .int .i64 1), (5, 37, .tuple #[.int .i64 0, .int .i64 l.length]), (6, 38, .int .i64 l.length)] 44 [] (W10 w0 mb q l p cv)) hmix (by kernel_rfl)
    ⟨h0.size, h0.defers, h0.kn, by simp, ⟨fun _ => (Has.stable _ _) _ _ h0.wp (Below.refl _ _).drew, fun h _ => (by cases h), fun h => (by cases h)⟩⟩ ⟨?_, ?_, ?_, ?_, ?_, ?_, ?_, ?_, trivial⟩ ?_
  · intro Xs a w hX hdep hC hI
    have e4 := hI.gi 4 rfl
    go_simp
    exact hI.put' (k := 0) (d := 32) (by decide) (by simp) (by simp) (by simp) (hI.wp.step (by decide) (by decide))
  · intro Xs a w hX hdep hC hI
    have e6 := hI.gi 6 rfl
    go_simp
    exact hI.put' (k := 1) (d := 33) (by decide) (by simp) (by simp) (by simp) (hI.wp.step (by decide) (by decide))
  · intro Xs a w hX hdep hC hI
    have x1 : Xs 1 = true := hdep ⟨1, .data⟩ (by simp) rfl
    have e33 := hI.gk 1 rfl x1
    obtain ⟨o, hb⟩ := hI.wp.box
    have cc0 : w.cell? ⟨q, 0, none⟩ = some (.int .i64 p.1) := hb.cell0 rfl
    have cc1 : w.cell? ⟨q, 1, none⟩ = some (.int .i64 p.2.1) := hb.cell0 rfl
    have cc2 : w.cell? ⟨q, 2, none⟩ = some (.int .i64 p.2.2) := hb.cell0 rfl
    go_simp
    exact hI.put' (k := 2) (d := 34) (by decide) (by simp) (by simp) (by simp) (hI.wp.step (by decide) (by decide))
  · intro Xs a w hX hdep hC hI
    have x0 : Xs 0 = true := hdep ⟨0, .data⟩ (by simp) rfl
    have e32 := hI.gk 0 rfl x0
    have x2 : Xs 2 = true := hdep ⟨2, .data⟩ (by simp) rfl
    have e34 := hI.gk 2 rfl x2
    have n7 : Xs 7 = false := by
      cases y7 : Xs 7 with
      | false => rfl
      | true =>
        have y4 := hC 7 _ rfl y7 ⟨4, .data⟩ (by simp) rfl
        have y3 := hC 4 _ rfl y4 ⟨3, .data⟩ (by simp) rfl
        rw [hX] at y3; cases y3
    have hlk : (Instr.lookup 86 (.map (some mb)) (sv p) false).run Try.prog w = .ok (.int .i64 0) w := by
      cases h5 : Xs 5 with
      | false => exact look_not hl (hI.wp.a h5).at0 hp hm
      | true => exact look_mid hl (hI.wp.b h5 n7).at0 hp hm
    rw [if_pos (by simp [Region.wanted])]
    refine operIn_lookup (.tmp 32) (.tmp 34) 86 rfl (.int .i64 0) (by rw [eval_tmp, eval_tmp, e32, e34]; exact hlk) ?_
    exact hI.put' (k := 3) (d := 35) (by decide) (by simp) (by simp) (by simp) (hI.wp.step (by decide) (by decide))
  · intro Xs a w hX hdep hC hI
    have x3 : Xs 3 = true := hdep ⟨3, .data⟩ (by simp) rfl
    have e35 := hI.gk 3 rfl x3
    have hw4 : IntKind.i64.wrap 1 = 1 := IntWalk.i64_in _ (by omega)
    go_simp
    exact hI.put' (k := 4) (d := 36) (by decide) (by simp) (by simp) (by simp [hw4]) (hI.wp.step (by decide) (by decide))
  · intro Xs a w hX hdep hC hI
    have x0 : Xs 0 = true := hdep ⟨0, .data⟩ (by simp) rfl
    have e32 := hI.gk 0 rfl x0
    have x2 : Xs 2 = true := hdep ⟨2, .data⟩ (by simp) rfl
    have e34 := hI.gk 2 rfl x2
    have n7 : Xs 7 = false := by
      cases y7 : Xs 7 with
      | false => rfl
      | true =>
        have y5 := hC 7 _ rfl y7 ⟨5, .chain⟩ (by simp) rfl
        rw [hX] at y5; cases y5
    have hH := hI.wp.a hX
    rw [if_pos (by simp [Region.wanted])]
    refine operIn_mapEntry (.tmp 32) (.tmp 34) 86 rfl _ (by rw [eval_tmp, eval_tmp, e32, e34]; exact run_entry hl hH.at0 hp hm) ?_
    exact hI.put' (k := 5) (d := 37) (by decide) (by simp) (by simp) (by simp) ⟨fun h => by simp [addX] at h, fun _ _ => hH.setM _ _, fun h => by simp [addX, n7] at h⟩
  · intro Xs a w hX hdep hC hI
    have x5 : Xs 5 = true := hdep ⟨5, .data⟩ (by simp) rfl
    have e37 := hI.gk 5 rfl x5
    go_simp
    exact hI.put' (k := 6) (d := 38) (by decide) (by simp) (by simp) (by simp) (hI.wp.step (by decide) (by decide))
  · intro Xs a w hX hdep hC hI
    have x0 : Xs 0 = true := hdep ⟨0, .data⟩ (by simp) rfl
    have e32 := hI.gk 0 rfl x0
    have x6 : Xs 6 = true := hdep ⟨6, .data⟩ (by simp) rfl
    have e38 := hI.gk 6 rfl x6
    have x4 : Xs 4 = true := hdep ⟨4, .data⟩ (by simp) rfl
    have e36 := hI.gk 4 rfl x4
    have x5 : Xs 5 = true := hdep ⟨5, .chain⟩ (by simp) rfl
    have hH := hI.wp.b x5 hX
    rw [if_pos (by simp [Region.wanted])]
    refine operIn_entryStore (.tmp 32) (.tmp 38) (.tmp 36) 86 rfl rfl (by rw [eval_tmp, eval_tmp, eval_tmp, e32, e38, e36]; exact run_estore hH.at0) ?_
    exact hI.put_none' (k := 7) (by simp) ⟨fun h => by simp [addX, x5] at h, fun _ h => by simp [addX] at h, fun _ => hH.setM _ _⟩
  · intro Xs a w hX hI
    refine hQ a w ⟨hI.size, hI.defers, ?_, hI.wp.c (hX 7 (by simp))⟩
    simp only [List.mem_cons, List.not_mem_nil, or_false, forall_eq_or_imp, forall_eq]
    exact ⟨hI.gi 2 rfl, hI.gi 4 rfl, hI.gi 10 rfl, hI.gi 11 rfl, hI.gi 12 rfl, hI.gi 7 rfl⟩
end
/-! ### The total -/
structure Hd where
  sp : Sp3
  ck : Option (Nat × (Nat → Int))
def Hd.ptr (h : Hd) : Option Addr := h.ck.map fun c => ⟨c.1, 0, none⟩
def Hd.lies (h : Hd) (w : World) : Prop := match h.ck with | none => True | some (r, A) => Byt A ∧ ∃ B, CkW w r A B
theorem Hd.lies_below {h : Hd} {w w' : World} (hl : h.lies w) (hb : Below w.heap.size w w') : h.lies w' := by
  obtain ⟨sp, ck⟩ := h
  cases ck with
  | none => trivial
  | some c => obtain ⟨h1, B, h2⟩ := hl; exact ⟨h1, B, h2.below hb⟩
def moreS (h : Hd) : Int × Int := match h.ck with
  | none => (0, 1)
  | some (_, A) => if mayS h.sp.1 h.sp.2.1 h.sp.2.2 = true then ((cntM A 4096 : Nat) - movR h.sp.1 h.sp.2.1 h.sp.2.2, 0) else (0, 10)
theorem moreS_bd (h : Hd) : -4096 ≤ (moreS h).1 ∧ (moreS h).1 ≤ 4096 := by
  obtain ⟨⟨x, y, z⟩, ck⟩ := h
  cases ck with
  | none => simp [moreS]
  | some c =>
    obtain ⟨r, A⟩ := c
    have h1 := cntM_le A 4096
    have h2 := movR_bd x y z
    unfold moreS
    simp only
    split
    · simp only; omega
    · simp only; omega
theorem more_all {h : Hd} (hs : okS h.sp) {w : World} (hl : h.lies w) (n : Nat) : CallsIn Fence.wide n Try.prog 13 #[.pointer h.ptr, sv h.sp] w fun e w' => e = .returned (.tuple #[.int .i64 (moreS h).1, .int .i64 (moreS h).2]) ∧ Below w.heap.size w w' := by
  obtain ⟨⟨x, y, z⟩, ck⟩ := h
  obtain ⟨hx, hy, hz⟩ := hs
  cases ck with
  | none => exact more_nil n w
  | some c =>
    obtain ⟨r, A⟩ := c
    obtain ⟨hA, B, hc⟩ := hl
    cases hm : mayS x y z with
    | false =>
      have : moreS ⟨(x, y, z), some (r, A)⟩ = (0, 10) := by simp [moreS, hm]
      rw [this]
      exact more_not hx hy hz hm n w
    | true =>
      have : moreS ⟨(x, y, z), some (r, A)⟩ = ((cntM A 4096 : Nat) - movR x y z, 0) := by simp [moreS, hm]
      rw [this]
      exact more_in hA hx hy hz hm n w hc
/-- A row of held chunks. -/
structure Row (w : World) (g : Nat) (l : List Hd) : Prop where
  cells : ∀ i h, l[i]? = some h → w.cell? ⟨g, i * 4, none⟩ = some (.int .i64 h.sp.1) ∧ w.cell? ⟨g, i * 4 + 1, none⟩ = some (.int .i64 h.sp.2.1) ∧ w.cell? ⟨g, i * 4 + 2, none⟩ = some (.int .i64 h.sp.2.2) ∧ w.cell? ⟨g, i * 4 + 3, none⟩ = some (.pointer h.ptr)
  ok : ∀ h ∈ l, okS h.sp ∧ h.lies w
  lt : 0 < l.length → g < w.heap.size
theorem Row.below {w w' : World} {g : Nat} {l : List Hd} (h : Row w g l) (hb : Below w.heap.size w w') : Row w' g l where
  cells i x hx := by
    have hlt := h.lt (by have := (List.getElem?_eq_some_iff.1 hx).1; omega)
    obtain ⟨h0, h1, h2, h3⟩ := h.cells i x hx
    exact ⟨(hb.cell (p := ⟨g, i * 4, none⟩) hlt).trans h0, (hb.cell (p := ⟨g, i * 4 + 1, none⟩) hlt).trans h1, (hb.cell (p := ⟨g, i * 4 + 2, none⟩) hlt).trans h2, (hb.cell (p := ⟨g, i * 4 + 3, none⟩) hlt).trans h3⟩
  ok x hx := ⟨(h.ok x hx).1, Hd.lies_below (h.ok x hx).2 hb⟩
  lt hl := Nat.lt_of_lt_of_le (h.lt hl) hb.size
def totS : List Hd → List Sp3 → Int → Int × Int
  | [], _, s => (s, 0)
  | h :: t, met, s => if (moreS h).2 = 0 then (if h.sp ∈ met then (0, 6) else totS t (met ++ [h.sp]) (s + (moreS h).1)) else (0, (moreS h).2)
theorem C19_eq : C19 = .seq (regOf 0 C19) (.seq (regOf 1 C19) (.seq (.seq (regOf 2 C19) (.block 0 (.loop (.seq (regOf 3 C19) (.seq (.cond (.tmp 13) .skip (.exit 0)) (.seq (.block 1 (.seq (regOf 4 C19) (.seq (regOf 5 C19) (.seq (.seq (regOf 6 C19) (.cond (.tmp 25) (.seq (regOf 7 C19) .ret) .skip)) (.seq (.seq (regOf 8 C19) (.cond (.tmp 31) (.seq (regOf 9 C19) .ret) .skip)) (.seq (regOf 10 C19) (regOf 11 C19))))))) (regOf 12 C19))))))) (.seq (regOf 13 C19) .ret))) := by kernel_rfl
abbrev st19 (gp : Option Addr) (L cp mb : Nat) (s : Int) (i : Nat) : List (Nat × Value) := [(2, .int .i64 s), (4, .map (some mb)), (10, .slice gp L cp), (11, .int .i64 L), (12, .int .i64 i)]
theorem ret19 {w w0 : World} {a : Act} {s e : Int} (hs : SR [(2, .int .i64 s), (3, .int .i64 e)] 44 [] w a w) (hb : Below w0.heap.size w0 w) : bodyPost Try.prog Try.f19 (fun x w' => x = .returned (.tuple #[.int .i64 s, .int .i64 e]) ∧ Below w0.heap.size w0 w') .ret a w :=
  ⟨hs.defers, _, results_tmp2 (t := 2) (u := 3) rfl _ _ _, by rw [Array.getD_eq_getD_getElem?, Array.getD_eq_getD_getElem?, hs.g 2 rfl, hs.g 3 rfl], hb⟩
set_option maxHeartbeats 4000000 in
theorem total_in {l : List Hd} {w : World} {g cp : Nat} {gp : Option Addr} (hgp : 0 < l.length → gp = some ⟨g, 0, none⟩) (hR : Row w g l) (hL : l.length ≤ 100000) (n : Nat) :
    CallsIn Fence.wide n Try.prog 19 #[.slice gp l.length cp] w fun e w' => e = .returned (.tuple #[.int .i64 (totS l [] 0).1, .int .i64 (totS l [] 0).2]) ∧ Below w.heap.size w w' := by
  refine callsIn_of_wp Try.func19 rfl trivial ?_
  show C19.wpIn _ _ _ _ _ _
  rw [C19_eq]
  refine wpIn_seq (to0 n w gp l.length cp _ _ ⟨by simp [Try.ntmps19], rfl, by simp [Try.ntmps19], rfl⟩ ?_)
  intro a0 h0
  refine wpIn_seq (to1 n w gp l.length cp _ a0 (h0.sub (by simp)) ?_)
  intro a1 h1
  have hH := (Has.start w).alloc (.map #[] 0)
  obtain ⟨mb, hmb⟩ : ∃ mb, mb = w.heap.size := ⟨_, rfl⟩
  obtain ⟨w1, hw1⟩ : ∃ w1, w1 = w.alloc (.map #[] 0) := ⟨_, rfl⟩
  rw [← hw1] at h1 hH ⊢
  rw [← hmb] at h1 hH
  refine wpIn_seq (wpIn_seq (to2 n w1 gp l.length cp mb _ a1 h1 ?_))
  intro a2 h2
  refine wpIn_block (wpIn_loop (fun a w' => ∃ i s met, i ≤ l.length ∧ totS l [] 0 = totS (l.drop i) met s ∧ (-4096 * (i : Int) ≤ s ∧ s ≤ 4096 * (i : Int)) ∧ (∀ q ∈ met, okS q) ∧ SG (st19 gp l.length cp mb s i) 44 (Has w [(mb, .map (entM met) met.length)]) a w') (fun a _ => l.length - slotN 12 a) ⟨0, 0, [], Nat.zero_le _, rfl, by omega, by simp, h2.sg hH⟩ ?_)
  rintro a w4 ⟨i, s, met, hi, htot, hsb, hmet, ha⟩
  have e12 := ha.slot (t := 12) (v := i) (k := .i64) (by simp)
  have hG := ha.wp
  refine wpIn_seq (to3 n w4 gp l.length cp mb s i _ a ha.sr ?_)
  intro a5 h5
  by_cases hlt : i < l.length
  · refine wpIn_seq (wpIn_cond (t := true) (by rw [eval_tmp, h5.g 13 rfl, decide_eq_true (by omega)]) (wpIn_skip (wpIn_seq (wpIn_block ?_))))
    obtain rfl := hgp (by omega)
    have hR4 := hR.below hG.bel
    obtain ⟨h, hh⟩ : ∃ h, l[i]? = some h := ⟨l[i], List.getElem?_eq_getElem hlt⟩
    have hmem : h ∈ l := List.mem_of_getElem? hh
    have hd : l.drop i = h :: l.drop (i + 1) := by rw [List.drop_eq_getElem_cons hlt]; rw [List.getElem?_eq_getElem hlt] at hh; cases hh; rfl
    rw [hd] at htot
    obtain ⟨c0, c1, c2, c3⟩ := hR4.cells i h hh
    have hok := (hR4.ok h hmem).1
    refine wpIn_seq (to4 n w4 g l.length cp mb s i _ _ _ _ hlt c0 c1 c2 c3 _ a5 (h5.sub (by simp)) ?_)
    intro a6 h6
    have hG6 := hG.alloc (.cells #[.int .i64 h.sp.1, .int .i64 h.sp.2.1, .int .i64 h.sp.2.2, .pointer h.ptr] 58)
    obtain ⟨q, hq⟩ : ∃ q, q = w4.heap.size := ⟨_, rfl⟩
    obtain ⟨w6, hw6⟩ : ∃ w6, w6 = w4.alloc (.cells #[.int .i64 h.sp.1, .int .i64 h.sp.2.1, .int .i64 h.sp.2.2, .pointer h.ptr] 58) := ⟨_, rfl⟩
    rw [← hw6] at h6 hG6 ⊢
    rw [← hq] at h6 hG6
    refine wpIn_seq (to5 n (Has.stable _ _) (some ⟨g, 0, none⟩) l.length cp mb s i q _ _ _ _ (moreS h).1 (moreS h).2 (fun w hw => hw.cell0 rfl) (fun w hw => hw.cell0 rfl) (fun w hw => hw.cell0 rfl) (fun w hw => hw.cell0 rfl) (fun m w' hw => more_all hok ((hR.below hw.bel).ok h hmem).2 m) _ a6 w6 (h6.sg hG6) ?_)
    intro a7 w7 h7
    have hG7 := h7.wp
    by_cases her : (moreS h).2 = 0
    · rw [her] at h7
      refine wpIn_seq (wpIn_seq (to6y n w7 (some ⟨g, 0, none⟩) l.length cp mb s i q (moreS h).1 _ a7 h7.sr ?_))
      intro a8 h8
      refine wpIn_cond (t := false) (by rw [eval_tmp]; exact h8.g 25 rfl) (wpIn_skip ?_)
      by_cases hmm : h.sp ∈ met
      · refine wpIn_seq (wpIn_seq (to8y n w7 (some ⟨g, 0, none⟩) l.length cp mb s i q (moreS h).1 _ _ _ (look_in hmet hG7.swap.at0 hok hmm) (hG7.cell0 rfl) (hG7.cell0 rfl) (hG7.cell0 rfl) _ a8 (h8.sub (by simp)) ?_))
        intro a9 h9
        refine wpIn_cond (t := true) (by rw [eval_tmp]; exact h9.g 31 rfl) (wpIn_seq ?_)
        refine to9 n w7 _ a9 (h9.sub (by simp)) ?_
        intro a10 h10
        have et : totS l [] 0 = (0, 6) := by rw [htot]; simp [totS, her, hmm]
        rw [et]
        exact wpIn_ret (ret19 h10 hG7.bel)
      · refine wpIn_seq (wpIn_seq (to8n n w7 (some ⟨g, 0, none⟩) l.length cp mb s i q (moreS h).1 _ _ _ (look_not hmet hG7.swap.at0 hok hmm) (hG7.cell0 rfl) (hG7.cell0 rfl) (hG7.cell0 rfl) _ a8 (h8.sub (by simp)) ?_))
        intro a9 h9
        refine wpIn_cond (t := false) (by rw [eval_tmp]; exact h9.g 31 rfl) (wpIn_skip ?_)
        have hbd := moreS_bd h
        refine wpIn_seq (to10 n (some ⟨g, 0, none⟩) l.length cp s i (moreS h).1 hmet hok hmm _ a9 ((h9.sub (by simp)).sg hG7.swap) ?_)
        intro a10 w10 h10
        have hG10 := h10.wp.swap.tail
        refine to11 n w10 (some ⟨g, 0, none⟩) l.length cp mb s i (moreS h).1 (by omega) (by omega) _ a10 h10.sr ?_
        intro a11 h11
        show (regOf 12 C19).wpIn _ _ _ _ _ _
        refine to12 n w10 (some ⟨g, 0, none⟩) l.length cp mb _ i hlt (by omega) _ a11 h11 ?_
        intro a12 h12
        have h12 : SG (st19 (some ⟨g, 0, none⟩) l.length cp mb (s + (moreS h).1) (i + 1)) 44 (Has w [(mb, .map (entM (met ++ [h.sp])) (met ++ [h.sp]).length)]) a12 w10 := h12.sg (by rw [List.length_append]; exact hG10)
        refine ⟨⟨i + 1, s + (moreS h).1, met ++ [h.sp], hlt, ?_, by omega, ?_, h12⟩, by rw [e12, h12.slot (t := 12) (v := i + 1) (k := .i64) (by simp)]; omega⟩
        · rw [htot]; simp [totS, her, hmm]
        · intro q hq
          rcases List.mem_append.1 hq with hq | hq
          · exact hmet q hq
          · rw [List.mem_singleton.1 hq]; exact hok
    · refine wpIn_seq (wpIn_seq (to6n n w7 (some ⟨g, 0, none⟩) l.length cp mb s i q (moreS h).1 (moreS h).2 _ a7 h7.sr ?_))
      intro a8 h8
      refine wpIn_cond (t := true) (by rw [eval_tmp, h8.g 25 rfl]; simp [her]) (wpIn_seq ?_)
      refine to7 n w7 (moreS h).2 _ a8 (h8.sub (by simp)) ?_
      intro a9 h9
      have et : totS l [] 0 = (0, (moreS h).2) := by rw [htot]; simp [totS, her]
      rw [et]
      exact wpIn_ret (ret19 h9 hG7.bel)
  · refine wpIn_seq (wpIn_cond (t := false) (by rw [eval_tmp, h5.g 13 rfl, decide_eq_false (by omega)]) (wpIn_exit ?_))
    obtain rfl : i = l.length := by omega
    show (Code.seq (regOf 13 C19) .ret).wpIn _ _ _ _ _ _
    refine wpIn_seq (to13 n w4 s _ a5 (h5.sub (by simp)) ?_)
    intro a6 h6
    have et : totS l [] 0 = (s, 0) := by rw [htot, List.drop_length]; rfl
    rw [et]
    exact wpIn_ret (ret19 h6 hG.bel)
end Go.Proofs.Ytigblagodlfedaa
