/- Glow: the walk of a law. -/
import Derived.RangeFuncNested
import Derived.RangeFuncBound
import Derived.RangeFuncCalls
import Derived.RangeFuncLeaves
import Derived.Shelf.Abstract
import Derived.Shelf.RegionOpen
import Derived.WalkKit
import Derived.OwnWalkIn
import Derived.TacticsInMore
import Derived.LoopNIn
import Derived.LoopIn
import Derived.Lib.Hide
import Derived.IntWalk
import Derived.Maps.AppendAt
import Derived.Test.YtigblagodlfedaaHand
import Derived.Test.YtigblagodlfedaaK2
set_option linter.unusedVariables false
set_option linter.unusedSimpArgs false
namespace Go.Proofs.Ytigblagodlfedaa
open Go.RowKit Go.Shelf
attribute [local go_sem] Oper.semAt_some

/-! ### How many of each kind a chunk has -/
open Pf (cellK cellL mayS spotV I64 U8 Gives movR)
theorem run_ix {w : World} {cs : Array Value} {u v : Value} {i L : Nat} (h43 : Try.prog.underlying 43 = some (.array L 25)) (hi : i < L) (hu : cs[i * 2]? = some u) (hv : cs[i * 2 + 1]? = some v) : (Instr.index 43 (.agg cs) (.int .i64 i)).run Try.prog w = .ok (.agg #[u, v]) w := by
  have hz : (sizeOf 25).run Try.prog w = .ok 2 w := Sx.szB_run (by kernel_rfl) w
  have hg : (isAgg 25).run Try.prog w = .ok true w := Sx.aggB_run (by kernel_rfl) w
  have he : cs.extract (i * 2) (i * 2 + 2) = #[u, v] := by
    have h1 := (Array.getElem?_eq_some_iff.1 hv).1
    apply Array.ext_getElem?
    intro j
    rw [Array.getElem?_extract]
    rcases j with _ | _ | j
    · rw [if_pos (by omega)]; simpa using hu
    · rw [if_pos (by omega)]; simpa using hv
    · rw [if_neg (by omega)]; simp
  have hin : (0 : Int) ≤ (i : Int) ∧ (i : Int) < (L : Nat) := by omega
  simp only [Instr.index, asIntOf, Sem.run_bind, Sem.run_pure, Result.andThen_ok, run_underlying h43, hz, if_pos hin, part, hg, if_true, Int.toNat_natCast, he]
theorem aggA_get (A : Nat → Int) {j : Nat} (hj : j < 8192) : (((List.range 8192).map fun j => Value.int .u8 (A j)).toArray)[j]? = some (.int .u8 (A j)) := by
  rw [List.getElem?_toArray, List.getElem?_map, List.getElem?_range hj]; rfl
theorem run_ix43 (A : Nat → Int) {i : Nat} (hi : i < 4096) (w : World) : (Instr.index 43 (aggA A) (.int .i64 i)).run Try.prog w = .ok (.agg #[.int .u8 (A (i * 2)), .int .u8 (A (i * 2 + 1))]) w :=
  run_ix (L := 4096) (by kernel_rfl) hi (aggA_get A (by omega)) (aggA_get A (by omega))
theorem run_ld43 {w : World} {r : Nat} {A B : Nat → Int} (h : CkW w r A B) : (Instr.loadAt 43 (ptr r)).run Try.prog w = .ok (aggA A) w :=
  Sx.run_load_cells (fun j v hv => by
    rw [List.getElem?_map] at hv
    have hj : j < 8192 := by
      rcases Nat.lt_or_ge j 8192 with h | h
      · exact h
      · rw [List.getElem?_eq_none (by rw [List.length_range]; exact h)] at hv; cases hv
    rw [List.getElem?_range hj] at hv
    cases hv
    rw [Nat.zero_add]; exact h.cell hj) (by kernel_rfl) (by rw [List.length_map, List.length_range]; kernel_rfl)
theorem run_ld39 {w : World} {o : Nat} {cur : Array Value} (h : w.heap[o]? = some (.cells cur 39 (0, 0))) (hs : cur.size = 15) : (Instr.loadAt 39 (ptr o)).run Try.prog w = .ok (.agg cur) w := by
  have := Sx.run_load_cells (P := Try.prog) (w := w) (g := o) (o := 0) (t := 39) (vs := cur.toList) (fun j v hv => by
    rw [Nat.zero_add]
    simp only [World.cell?, h]
    simpa using hv) (by kernel_rfl) (by rw [Array.length_toList, hs]; kernel_rfl)
  simpa using this
theorem run_st39 {w : World} {o : Nat} {cur : Array Value} (h : w.heap[o]? = some (.cells cur 39 (0, 0))) (hs : cur.size = 15) (h1 : ∀ v ∈ cur.toList, v.oneCell' = true) : (Instr.storeAt 39 (ptr o) (.agg cur)).run Try.prog w = .ok () w := by
  have := Sx.run_store_of (P := Try.prog) (w := w) (g := o) (o := 0) (t := 39) (v := .agg cur) (vs := cur.toList) (by simp [Value.cells]) (by rw [Array.length_toList, hs]; kernel_rfl) h (by simp) h1
  rw [this]
  congr 1
  have e : (List.take 0 cur.toList ++ cur.toList ++ List.drop (0 + cur.toList.length) cur.toList).toArray = cur := by rw [List.take_zero, List.nil_append, List.drop_eq_nil_of_le (by omega), List.append_nil]
  rw [e]
  exact setRow_self w o cur 39 (0, 0) h
def kdC (A : Nat → Int) : Nat → Nat → Nat
  | 0, _ => 0
  | i + 1, k => kdC A i k + if A (i * 2) = (k : Int) then 1 else 0
theorem kdC_le (A : Nat → Int) (k : Nat) : ∀ i, kdC A i k ≤ i
  | 0 => Nat.le_refl _
  | i + 1 => by have := kdC_le A k i; unfold kdC; split <;> omega
def arrK (K : Nat → Nat) : Array Value := ((List.range 15).map fun j => Value.int .i64 (K j : Nat)).toArray
theorem arrK_size (K : Nat → Nat) : (arrK K).size = 15 := by simp [arrK]
theorem arrK_get (K : Nat → Nat) {j : Nat} (hj : j < 15) : (arrK K)[j]? = some (.int .i64 (K j : Nat)) := by
  unfold arrK; rw [List.getElem?_toArray, List.getElem?_map, List.getElem?_range hj]; rfl
theorem arrK_one (K : Nat → Nat) : ∀ v ∈ (arrK K).toList, v.oneCell' = true := by
  intro v hv
  simp only [arrK, List.mem_map] at hv
  obtain ⟨j, _, rfl⟩ := hv
  rfl
theorem arrK_set (K : Nat → Nat) (k : Nat) {v : Int} (hv : v = (K k : Int) + 1) : (arrK K).setIfInBounds k (.int .i64 v) = arrK fun j => K j + if j = k then 1 else 0 := by
  apply Array.ext_getElem?
  intro j
  rw [Array.getElem?_setIfInBounds, arrK_size]
  by_cases hj : j < 15
  · rw [arrK_get _ hj, arrK_get _ hj]
    by_cases h : j = k
    · subst h; rw [if_pos rfl, if_pos hj, hv]; simp
    · rw [if_neg (Ne.symm h), if_neg h]; rfl
  · rw [Array.getElem?_eq_none (by rw [arrK_size]; omega), Array.getElem?_eq_none (xs := arrK _) (by rw [arrK_size]; omega)]
    split
    · split
      · omega
      · rfl
    · rfl
theorem C14_eq : C14 = .seq (regOf 0 C14) (.seq (.seq (regOf 1 C14) (.cond (.tmp 6) (.seq (regOf 2 C14) .ret) .skip)) (.seq (.seq (regOf 3 C14) (.block 0 (.loop (.seq (regOf 4 C14) (.seq (.cond (.tmp 13) .skip (.exit 0)) (.seq (.block 1 (.seq (regOf 5 C14) (.seq (regOf 6 C14) (.cond (.tmp 18) (regOf 7 C14) .skip)))) (regOf 8 C14))))))) (.seq (regOf 9 C14) .ret))) := by kernel_rfl
theorem zr15_eq : zr15 = arrK fun _ => 0 := rfl
theorem ret14 {w w0 : World} {a : Act} {o : Nat} {cur : Array Value} (hs : SR [(2, ptr o)] 27 [] w a w) (h : w.heap[o]? = some (.cells cur 39 (0, 0))) (hc : cur.size = 15) (hb : Below w0.heap.size w0 w) : bodyPost Try.prog Try.f14 (fun e w' => e = .returned (.agg cur) ∧ Below w0.heap.size w0 w') .ret a w :=
  ⟨hs.defers, _, results_cell_row (p := 2) (ty := 39) (d := .array 15 3) rfl a.tmps w o 39 cur (0, 0) (by rw [Array.getD_eq_getD_getElem?, hs.g 2 rfl]) h (by kernel_rfl) rfl (by rw [hc]; kernel_rfl), rfl, hb⟩
theorem kinds_nil (n : Nat) (w : World) : CallsIn Fence.wide n Try.prog 14 #[.pointer none] w fun e w' => e = .returned (.agg (arrK fun _ => 0)) ∧ Below w.heap.size w w' := by
  refine callsIn_of_wp Try.func14 rfl trivial ?_
  show C14.wpIn _ _ _ _ _ _
  rw [C14_eq]
  refine wpIn_seq (kd0n n w _ _ ⟨by simp [Try.ntmps14], rfl, by simp [Try.ntmps14], rfl⟩ ?_)
  intro a1 h1
  have hH := (Has.start w).alloc (.cells zr15 39)
  refine wpIn_seq (wpIn_seq (kd1n n _ w.heap.size _ a1 h1 ?_))
  intro a2 h2
  refine wpIn_cond (t := true) (by rw [eval_tmp]; exact h2.g 6 rfl) (wpIn_seq ?_)
  refine kd2 n _ w.heap.size zr15 (run_ld39 hH.at0 rfl) (run_st39 hH.at0 rfl (arrK_one fun _ => 0)) _ a2 (h2.sub (by simp)) ?_
  intro a3 h3
  exact wpIn_ret (ret14 h3 hH.at0 rfl hH.bel)
set_option maxHeartbeats 1000000 in
theorem kinds_in {r : Nat} {A B : Nat → Int} (hA : Byt A) (n : Nat) (w : World) (hr : CkW w r A B) : CallsIn Fence.wide n Try.prog 14 #[ptr r] w fun e w' => e = .returned (.agg (arrK (kdC A 4096))) ∧ Below w.heap.size w w' := by
  refine callsIn_of_wp Try.func14 rfl trivial ?_
  show C14.wpIn _ _ _ _ _ _
  rw [C14_eq]
  refine wpIn_seq (kd0p n w r _ _ ⟨by simp [Try.ntmps14], rfl, by simp [Try.ntmps14], rfl⟩ ?_)
  intro a1 h1
  have hH := (Has.start w).alloc (.cells zr15 39)
  obtain ⟨o, ho⟩ : ∃ o, o = w.heap.size := ⟨_, rfl⟩
  rw [← ho] at h1 hH
  refine wpIn_seq (wpIn_seq (kd1p n _ r o _ a1 h1 ?_))
  intro a2 h2
  refine wpIn_cond (t := false) (by rw [eval_tmp]; exact h2.g 6 rfl) (wpIn_skip ?_)
  refine wpIn_seq (wpIn_seq (kd3 n _ r o A (run_ld43 (hr.below hH.bel)) _ a2 (h2.sub (by simp)) ?_))
  intro a3 h3
  refine wpIn_block (wpIn_loop (fun a w' => ∃ i, i ≤ 4096 ∧ SG [(2, ptr o), (11, aggA A), (12, .int .i64 (i : Nat))] 27 (Has w [(o, .cells (arrK (kdC A i)) 39 (0, 0))]) a w') (fun a _ => 4096 - slotN 12 a) ⟨0, Nat.zero_le _, h3.sg hH⟩ ?_)
  rintro a w4 ⟨i, hi, ha⟩
  have e12 := ha.slot (t := 12) (v := i) (k := .i64) (by simp)
  have hG := ha.wp
  refine wpIn_seq (kd4 n w4 o i A _ a ha.sr ?_)
  intro a5 h5
  by_cases hlt : i < 4096
  · refine wpIn_seq (wpIn_cond (t := true) (by rw [eval_tmp, h5.g 13 rfl, decide_eq_true (by omega)]) (wpIn_skip (wpIn_seq (wpIn_block ?_))))
    refine wpIn_seq (kd5 n w4 o i A (run_ix43 A hlt) _ a5 (h5.sub (by simp)) ?_)
    intro a6 h6
    have hG6 := hG.alloc (.cells #[.int .u8 (A (i * 2)), .int .u8 (A (i * 2 + 1))] 25)
    obtain ⟨q, hq⟩ : ∃ q, q = w4.heap.size := ⟨_, rfl⟩
    obtain ⟨w6, hw6⟩ : ∃ w6, w6 = w4.alloc (.cells #[.int .u8 (A (i * 2)), .int .u8 (A (i * 2 + 1))] 25) := ⟨_, rfl⟩
    rw [← hw6] at h6 hG6 ⊢
    rw [← hq] at h6 hG6
    have hk := hA (i * 2)
    obtain ⟨k, hk1⟩ : ∃ k : Nat, A (i * 2) = k := ⟨(A (i * 2)).toNat, by have := hk.1; omega⟩
    rw [hk1] at hG6
    have hk2 : k < 256 := by have := hk.2; omega
    refine wpIn_seq (kd6 n w6 o i q k A hk2 (hG6.cell0 rfl) _ a6 h6 ?_)
    intro a7 h7
    have fin : ∀ a w', SR [(2, ptr o), (11, aggA A), (12, .int .i64 (i : Nat))] 27 [] w' a w' → Has w [(o, .cells (arrK (kdC A (i + 1))) 39 (0, 0))] w' → ∀ Q : Exit → Act → World → Prop, (∀ a w', (∃ i, i ≤ 4096 ∧ SG [(2, ptr o), (11, aggA A), (12, .int .i64 (i : Nat))] 27 (Has w [(o, .cells (arrK (kdC A i)) 39 (0, 0))]) a w') → 4096 - slotN 12 a < 4096 - i → Q .normal a w') → (regOf 8 C14).wpIn Fence.wide n Try.prog Q a w' := by
      intro a w' h hh Q hQ
      refine kd8 n w' o i A hlt _ a h ?_
      intro a9 h9
      have h9 : SG [(2, ptr o), (11, aggA A), (12, .int .i64 (i + 1 : Nat))] 27 (Has w [(o, .cells (arrK (kdC A (i + 1))) 39 (0, 0))]) a9 w' := h9.sg hh
      exact hQ a9 w' ⟨i + 1, hlt, h9⟩ (by rw [h9.slot (t := 12) (v := i + 1) (k := .i64) (by simp)]; omega)
    by_cases hk15 : k < 15
    · refine wpIn_cond (t := true) (by rw [eval_tmp, h7.g 18 rfl, decide_eq_true (by omega)]) ?_
      have hle := kdC_le A k i
      have hG7 := hG6.swap
      refine kd7 n w6 o i q k A hk2 (kdC A i k) (by omega) hk15 hG7.free (hG7.cell0 (arrK_get _ hk15)) (hG6.cell0 rfl) (hG7.cell0 (arrK_get _ hk15)) _ a7 (h7.sub (by simp)) ?_
      intro a8 h8
      have hG8 := (hG7.set (m := k) (.int .i64 ((kdC A i k : Nat) + 1))).swap.tail
      rw [arrK_set (kdC A i) k rfl] at hG8
      have ek : (fun j => kdC A i j + if j = k then 1 else 0) = kdC A (i + 1) := by
        funext j
        show _ = kdC A i j + if A (i * 2) = (j : Int) then 1 else 0
        rw [hk1]
        by_cases h : j = k
        · rw [if_pos h, if_pos (by omega)]
        · rw [if_neg h, if_neg (by omega)]
      rw [ek] at hG8
      refine fin a8 _ h8 hG8 _ ?_
      intro a9 w9 h9 h10
      exact ⟨h9, by rw [e12]; exact h10⟩
    · refine wpIn_cond (t := false) (by rw [eval_tmp, h7.g 18 rfl, decide_eq_false (by omega)]) (wpIn_skip ?_)
      have ek : arrK (kdC A i) = arrK (kdC A (i + 1)) := by
        apply Array.ext_getElem?
        intro j
        by_cases hj : j < 15
        · rw [arrK_get _ hj, arrK_get _ hj]
          have : kdC A (i + 1) j = kdC A i j := by
            show kdC A i j + (if A (i * 2) = (j : Int) then 1 else 0) = _
            rw [hk1, if_neg (by omega)]; rfl
          rw [this]
        · rw [Array.getElem?_eq_none (by rw [arrK_size]; omega), Array.getElem?_eq_none (by rw [arrK_size]; omega)]
      have hG7 := hG6.tail
      rw [ek] at hG7
      refine fin a7 _ (h7.sub (by simp)) hG7 _ ?_
      intro a9 w9 h9 h10
      exact ⟨h9, by rw [e12]; exact h10⟩
  · refine wpIn_seq (wpIn_cond (t := false) (by rw [eval_tmp, h5.g 13 rfl, decide_eq_false (by omega)]) (wpIn_exit ?_))
    obtain rfl : i = 4096 := by omega
    show (Code.seq (regOf 9 C14) .ret).wpIn _ _ _ _ _ _
    refine wpIn_seq (kd9 n w4 o _ (run_ld39 hG.at0 (arrK_size _)) (run_st39 hG.at0 (arrK_size _) (arrK_one _)) _ a5 (h5.sub (by simp)) ?_)
    intro a6 h6
    exact wpIn_ret (ret14 h6 hG.at0 (arrK_size _) hG.bel)
end Go.Proofs.Ytigblagodlfedaa
