/- Glow: the walk of a law. -/
import Derived.RangeFuncNested
import Derived.RangeFuncBound
import Derived.RangeFuncCalls
import Derived.RangeFuncLeaves
import Derived.Shelf.Abstract
import Derived.Shelf.RegionOpen
import Derived.WalkKit
import Derived.OwnWalkIn
import Derived.TacticsInMore
import Derived.LoopNIn
import Derived.LoopIn
import Derived.Lib.Hide
import Derived.IntWalk
import Derived.Maps.AppendAt
import Derived.Test.YtdkdoopimfchbaaKc
import Derived.Test.YtdkdoopimfchbaaGin
import Derived.Test.YtdkdoopimfchbaaFsp
import Derived.Test.YtdkdoopimfchbaaFa
set_option linter.unusedVariables false
set_option linter.unusedSimpArgs false
namespace Go.Proofs.Ytdkdoopimfchbaa
open Go.RowKit Go.Shelf
attribute [local go_sem] Oper.semAt_some

/-! ### Two rows joined: the plain law -/
open Sx (lead lead_le lead_all lead_stop lead_uniq cellP)
def joinA (A B : Nat → Int) (l1 j : Nat) : Int := if j < l1 * 2 then A j else B (j - l1 * 2)
section
variable {A B : Nat → Int} {l1 l2 : Nat}
theorem cellP_join {j i : Nat} (hi : i < l1) : cellP j (joinA A B l1) (i * 2 + 0) = cellP j A (i * 2 + 0) := by
  unfold cellP joinA; rw [if_pos (by omega), if_pos (by omega)]
theorem rowP_join (h : Fa.rowP A l1 < l1) : Fa.rowP (joinA A B l1) (l1 + l2) = Fa.rowP A l1 := by
  refine (lead_uniq (q := fun k => cellP 1 (joinA A B l1) (k * 2 + 0)) (by omega) (fun i hi => ?_) (fun _ => ?_)).symm
  · rw [cellP_join (by omega)]; exact lead_all (fun k => cellP 1 A (k * 2 + 0)) l1 i hi
  · rw [cellP_join h]; exact lead_stop (fun k => cellP 1 A (k * 2 + 0)) l1 h
theorem rowBad_join (h : Fa.rowP A l1 < l1) : Fa.rowBad (joinA A B l1) (l1 + l2) = Fa.rowBad A l1 := by
  unfold Fa.rowBad
  rw [rowP_join h, cellP_join h, decide_eq_false (show ¬ Fa.rowP A l1 = l1 + l2 by omega), decide_eq_false (show ¬ Fa.rowP A l1 = l1 by omega)]
theorem rowNE_join (h : Fa.rowP A l1 < l1) : Fa.rowN (joinA A B l1) (l1 + l2) = Fa.rowN A l1 ∧ Fa.rowE (joinA A B l1) (l1 + l2) = Fa.rowE A l1 := by
  unfold Fa.rowN Fa.rowE
  rw [rowP_join h, rowBad_join h]
  exact ⟨rfl, rfl⟩
/-- It is pushed. -/
theorem short_ok (h : Fa.rowE A l1 = 0) : ∃ k, 0 < k ∧ k ≤ 8 ∧ k < l1 ∧ (∀ i, i < k → cellP 1 A (i * 2 + 0) = true) ∧ cellP 2 A (k * 2 + 0) = true ∧ Fa.rowN A l1 = k ∧ Fa.rowN (joinA A B l1) (l1 + l2) = k ∧ Fa.rowE (joinA A B l1) (l1 + l2) = 0 := by
  have hle := lead_le (fun k => cellP 1 A (k * 2 + 0)) l1
  have hall := lead_all (fun k => cellP 1 A (k * 2 + 0)) l1
  have h1 := h
  unfold Fa.rowE at h1
  split at h1
  · cases h1
  rename_i hn
  split at h1
  · cases h1
  rename_i hb
  have hb' := hb
  unfold Fa.rowBad at hb'
  simp only [Bool.or_eq_true, decide_eq_true_eq, Bool.not_eq_true', not_or] at hb'
  obtain ⟨b1, b2, b3⟩ := hb'
  have hlt : Fa.rowP A l1 < l1 := by have : Fa.rowP A l1 ≤ l1 := hle; omega
  have hj := rowNE_join (B := B) (l2 := l2) hlt
  have hN : Fa.rowN A l1 = (Fa.rowP A l1 : Nat) := by unfold Fa.rowN; rw [if_neg hn, if_neg hb]
  exact ⟨Fa.rowP A l1, by omega, by omega, hlt, hall, by simpa using b3, hN, by rw [hj.1, hN], by rw [hj.2]; exact h⟩
theorem short_zero (h : Fa.rowE A l1 ≠ 0) : Fa.rowN A l1 = 0 := by
  unfold Fa.rowE at h
  unfold Fa.rowN
  split
  · rfl
  · rename_i hn
    rw [if_neg hn] at h
    split
    · rfl
    · rename_i hb
      rw [if_neg hb] at h
      exact absurd rfl h
theorem short_none (h : Fa.rowE A l1 = 5) (h0 : 0 < l1) : Fa.rowN (joinA A B l1) (l1 + l2) = 0 ∧ Fa.rowE (joinA A B l1) (l1 + l2) = 5 := by
  have hp : Fa.rowP A l1 = 0 := by
    unfold Fa.rowE at h
    split at h
    · assumption
    · split at h <;> cases h
  have hj := rowNE_join (A := A) (B := B) (l2 := l2) (l1 := l1) (by omega)
  rw [hj.1, hj.2, h]
  refine ⟨?_, rfl⟩
  unfold Fa.rowN; rw [if_pos hp]
theorem lead9 {q : Nat → Bool} {n : Nat} (h : ∀ i, i < 9 → i < n ∧ q i = true) : 9 ≤ lead q n := by
  refine Nat.le_of_not_lt fun hlt => ?_
  have h1 := h _ hlt
  rw [lead_stop q n h1.1] at h1
  exact absurd h1.2 (by decide)
theorem nine {A : Nat → Int} {n : Nat} (h : 9 ≤ Fa.rowP A n) : Fa.rowE A n = 12 ∧ Fa.rowN A n = 0 := by
  have hb : Fa.rowBad A n = true := by unfold Fa.rowBad; rw [decide_eq_true (by omega)]; rfl
  unfold Fa.rowE Fa.rowN
  have hn : ¬ Fa.rowP A n = 0 := by omega
  rw [if_neg hn, if_pos hb, if_neg hn, if_pos hb]
  exact ⟨rfl, rfl⟩
theorem short_nine (h : ∀ i, i < 9 → i < l1 ∧ cellP 1 A (i * 2 + 0) = true) : Fa.rowE A l1 = 12 ∧ Fa.rowE (joinA A B l1) (l1 + l2) = 12 ∧ Fa.rowN (joinA A B l1) (l1 + l2) = 0 := by
  have h1 := nine (A := A) (n := l1) (lead9 h)
  have h2 := nine (A := joinA A B l1) (n := l1 + l2) (lead9 fun i hi => ⟨by have := (h i hi).1; omega, by rw [cellP_join (h i hi).1]; exact (h i hi).2⟩)
  exact ⟨h1.1, h2.1, h2.2⟩
end
/-! ### fall.Row of every row -/
theorem C29_eq : C29 = .seq (regOf 0 C29) (.seq (.seq (regOf 1 C29) (.block 0 (.loop (.seq (regOf 2 C29) (.seq (.cond (.tmp 10) .skip (.exit 0)) (.seq (.block 1 (.seq (regOf 3 C29) (.seq (regOf 4 C29) (.cond (.tmp 17) (.seq (regOf 5 C29) .ret) .skip)))) (regOf 6 C29))))))) (.seq (regOf 7 C29) .ret)) := by kernel_rfl
theorem ahead_nil (n : Nat) (w : World) (sp : Option Addr) (cap : Nat) (fv : Value) : CallsIn Fence.wide n Try.prog 29 #[.slice sp 0 cap, fv] w fun e w' => e = .returned (.int .i64 0) ∧ Below w.heap.size w w' := by
  refine callsIn_of_wp Try.func29 rfl trivial ?_
  show C29.wpIn _ _ _ _ _ _
  rw [C29_eq]
  refine wpIn_seq (ah0 n w sp cap fv _ _ ⟨by simp [Try.ntmps29], rfl, by simp [Try.ntmps29], rfl⟩ ?_)
  intro a1 h1
  refine wpIn_seq (wpIn_seq (ah1 n w sp cap _ a1 h1 ?_))
  intro a2 h2
  refine wpIn_block (wpIn_loop (fun a w' => SG [(0, .slice sp 0 cap), (8, .int .i64 0), (9, .int .i64 0)] 22 (fun w' => w' = w) a w') (fun _ _ => 0) ⟨h2.size, h2.defers, h2.kn, rfl⟩ ?_)
  intro a w' ha
  obtain rfl : w' = w := ha.wp
  refine wpIn_seq (ah2 n w' sp cap _ a ha.sr ?_)
  intro a3 h3
  refine wpIn_seq (wpIn_cond (t := false) (by rw [eval_tmp]; exact h3.kn (10, .bool false) (by simp)) (wpIn_exit ?_))
  show (Code.seq (regOf 7 C29) .ret).wpIn _ _ _ _ _ _
  refine wpIn_seq (ah7 n w' sp cap _ a3 (h3.sub (by simp)) ?_)
  intro a4 h4
  exact wpIn_ret ⟨h4.defers, _, results_tmp (t := 4) rfl _ _ _, by rw [Array.getD_eq_getD_getElem?, h4.kn (4, .int .i64 0) (by simp)], Below.refl _ _⟩
theorem C12_eq : C12 = .seq (regOf 0 C12) (.seq (regOf 1 C12) (.seq (.block 0 (.seq (regOf 2 C12) (.cond (.tmp 7) (.seq (regOf 3 C12) .ret) (.seq (regOf 4 C12) (.cond (.tmp 10) (.seq (regOf 5 C12) .ret) .skip))))) (.seq (regOf 6 C12) .ret))) := by kernel_rfl
theorem row_nil (n : Nat) (w : World) (sp : Option Addr) (cap : Nat) : CallsIn Fence.wide n Try.prog 12 #[.slice sp 0 cap] w fun e w' => e = .returned (.tuple #[.int .i64 0, .int .i64 5]) ∧ Below w.heap.size w w' := by
  refine callsIn_of_wp Try.func12 rfl trivial ?_
  show C12.wpIn _ _ _ _ _ _
  rw [C12_eq]
  refine wpIn_seq (rw0 n w sp cap _ _ ⟨by simp [Try.ntmps12], rfl, by simp [Try.ntmps12], rfl⟩ ?_)
  intro a1 h1
  refine wpIn_seq (rw1 n (G := Below w.heap.size w) (fun w1 w2 hh hb => hh.trans (hb.mono hh.size)) sp cap (fun fv m w _ => ahead_nil m w sp cap fv) _ a1 w (h1.sg (Below.refl _ _)) ?_)
  intro a2 w2 h2
  have hG := h2.wp
  refine wpIn_seq (wpIn_block (wpIn_seq (rw2 n w2 _ a2 (h2.sub (by simp)).sr ?_)))
  intro a3 h3
  refine wpIn_cond (t := true) (by rw [eval_tmp]; exact h3.kn (7, .bool true) (by simp)) ?_
  refine wpIn_seq (rw3 n w2 _ a3 (h3.sub (by simp)) ?_)
  intro a4 h4
  exact wpIn_ret ⟨h4.defers, _, results_tmp2 (t := 2) (u := 3) rfl _ _ _, by rw [Array.getD_eq_getD_getElem?, Array.getD_eq_getD_getElem?, h4.kn (2, .int .i64 0) (by simp), h4.kn (3, .int .i64 5) (by simp)], hG⟩
/-- What is known of a slice of cells. -/
structure SlD (w : World) (o : Option Addr) (len cap : Nat) (A : Nat → Int) : Prop where
  rng : ∀ j, 0 ≤ A j ∧ A j ≤ 255
  le : len ≤ 3000000
  shape : (o = none ∧ len = 0 ∧ cap = 0) ∨ ∃ g off, o = some ⟨g, off, none⟩
  row : 0 < len → ∃ g off, o = some ⟨g, off, none⟩ ∧ len ≤ cap ∧ Sx.RowIn w g off [.u8, .u8] (len * 2) A
theorem RowIn.below {w w' : World} {g off n : Nat} {ks : List IntKind} {A : Nat → Int} (h : Sx.RowIn w g off ks n A) (hb : Below w.heap.size w w') : Sx.RowIn w' g off ks n A := by
  obtain ⟨cs, t, fr, k1, k2⟩ := h.blk
  exact ⟨cs, t, fr, (hb.block g (Array.getElem?_eq_some_iff.1 k1).1).trans k1, k2⟩
theorem SlD.below {w w' : World} {o : Option Addr} {len cap : Nat} {A : Nat → Int} (h : SlD w o len cap A) (hb : Below w.heap.size w w') : SlD w' o len cap A :=
  ⟨h.rng, h.le, h.shape, fun h0 => by obtain ⟨g, off, k1, k2, k3⟩ := h.row h0; exact ⟨g, off, k1, k2, RowIn.below k3 hb⟩⟩
theorem slD_of {w : World} {M : Nat} {v : Value} (hM : M ≤ 3000000) (hs : Sx.SlIn w [.u8, .u8] M v) : ∃ o len cap A, v = .slice o len cap ∧ len ≤ M ∧ SlD w o len cap A := by
  cases hs with
  | nil => exact ⟨_, _, _, fun _ => 0, rfl, Nat.zero_le _, fun _ => ⟨by decide, by decide⟩, Nat.zero_le _, .inl ⟨rfl, rfl, rfl⟩, fun h => absurd h (Nat.lt_irrefl _)⟩
  | empty g off cap => exact ⟨_, _, _, fun _ => 0, rfl, Nat.zero_le _, fun _ => ⟨by decide, by decide⟩, Nat.zero_le _, .inr ⟨g, off, rfl⟩, fun h => absurd h (Nat.lt_irrefl _)⟩
  | row g off len cap A h0 hc hl hA hr =>
    refine ⟨_, _, _, A, rfl, hl, fun j => ?_, Nat.le_trans hl hM, .inr ⟨g, off, rfl⟩, fun _ => ⟨g, off, rfl, hc, hr⟩⟩
    have := hA j
    have e : j % 2 = 0 ∨ j % 2 = 1 := by omega
    simp only [List.length_cons, List.length_nil] at this
    rcases e with e | e <;> simp [e, IntKind.min, IntKind.max, IntKind.signed, IntKind.bits] at this <;> omega
theorem row_in (n : Nat) (w : World) {o : Option Addr} {len cap : Nat} {A : Nat → Int} (h : SlD w o len cap A) : CallsIn Fence.wide n Try.prog 12 #[.slice o len cap] w fun e w' => e = .returned (.tuple #[.int .i64 (Fa.rowN A len), .int .i64 (Fa.rowE A len)]) ∧ Below w.heap.size w w' := by
  by_cases h0 : 0 < len
  · obtain ⟨g, off, rfl, h1, h2⟩ := h.row h0
    exact callsIn_wide.2 (Fa.c12 w g off len cap A h0 h1 (by have := h.le; omega) (fun j => ⟨.u8, by simp, by have := h.rng j; simp [IntKind.min, IntKind.max, IntKind.signed, IntKind.bits]; omega⟩) h2)
  · obtain rfl : len = 0 := by omega
    have e : Fa.rowP A 0 = 0 := rfl
    have e1 : Fa.rowN A 0 = 0 := by unfold Fa.rowN; rw [if_pos e]
    have e2 : Fa.rowE A 0 = 5 := by unfold Fa.rowE; rw [if_pos e]
    rw [e1, e2]
    exact row_nil n w o cap
/-! ### FallShort -/
def kd (A : Nat → Int) (s : Nat) : Nat := (A (s * 2)).toNat
def lv (A : Nat → Int) (s : Nat) : Nat := (A (s * 2 + 1)).toNat
section
variable {w : World} {o : Option Addr} {len cap : Nat} {A : Nat → Int}
theorem SlD.cell (h : SlD w o len cap A) {g off : Nat} (ho : o = some ⟨g, off, none⟩) {j : Nat} (hj : j < len * 2) : w.cell? ⟨g, off + j, none⟩ = some (.int .u8 (A j)) ∧ g < w.heap.size := by
  obtain ⟨g', off', e, _, hr⟩ := h.row (by omega)
  rw [ho] at e
  cases e
  obtain ⟨cs, t, fr, k1, k2, k3⟩ := hr.blk
  have := k3 j hj
  refine ⟨?_, (Array.getElem?_eq_some_iff.1 k1).1⟩
  simp only [World.cell?, k1, this]
  have : j % 2 = 0 ∨ j % 2 = 1 := by omega
  rcases this with e | e <;> simp [e]
theorem SlD.kind (h : SlD w o len cap A) {g off : Nat} (ho : o = some ⟨g, off, none⟩) {s : Nat} (hs : s < len) : w.cell? ⟨g, off + s * 2, none⟩ = some (.int .u8 (kd A s)) := by
  have := h.rng (s * 2)
  rw [(h.cell ho (by omega)).1]; unfold kd; rw [Int.toNat_of_nonneg this.1]
theorem SlD.level (h : SlD w o len cap A) {g off : Nat} (ho : o = some ⟨g, off, none⟩) {s : Nat} (hs : s < len) : w.cell? ⟨g, off + s * 2 + 1, none⟩ = some (.int .u8 (lv A s)) := by
  have := h.rng (s * 2 + 1)
  rw [Nat.add_assoc, (h.cell ho (by omega)).1]; unfold lv; rw [Int.toNat_of_nonneg this.1]
theorem SlD.kdI (h : SlD w o len cap A) (s : Nat) : ((kd A s : Nat) : Int) = A (s * 2) ∧ ((lv A s : Nat) : Int) = A (s * 2 + 1) ∧ kd A s ≤ 255 ∧ lv A s ≤ 255 := by
  have h1 := h.rng (s * 2)
  have h2 := h.rng (s * 2 + 1)
  unfold kd lv; omega
theorem SlD.cellP (h : SlD w o len cap A) (j s : Nat) : Sx.cellP j A (s * 2 + 0) = (K.may (kd A s : Nat) (lv A s : Nat) && Sx.phiB1 j (kd A s : Nat)) := by
  have := h.kdI s
  unfold Sx.cellP
  rw [this.1, this.2.1, Nat.add_zero]
end
def newsA (A : Nat → Int) (N : Nat) : List Value := (List.range (N * 2)).map fun j => .int .u8 (A j)
theorem newsA_get {A : Nat → Int} {N j : Nat} {u : Value} (h : (newsA A N)[j]? = some u) : j < N * 2 ∧ u = .int .u8 (A j) := by
  unfold newsA at h
  rw [List.getElem?_map, Option.map_eq_some_iff] at h
  obtain ⟨k, hk, rfl⟩ := h
  obtain ⟨h1, h2⟩ := List.getElem?_eq_some_iff.1 hk
  rw [List.length_range] at h1
  rw [List.getElem_range] at h2
  subst h2
  exact ⟨h1, rfl⟩
theorem newsA_len {A : Nat → Int} {N : Nat} : (newsA A N).length = N * 2 := by simp [newsA]
theorem newsA_one {A : Nat → Int} {N : Nat} : ∀ u ∈ newsA A N, u.oneCell' = true := by
  intro u hu
  unfold newsA at hu
  obtain ⟨j, _, rfl⟩ := List.mem_map.1 hu
  rfl
theorem news_join {A B : Nat → Int} {l1 l2 j : Nat} (hj : j < (l1 + l2) * 2) : (newsA A l1 ++ newsA B l2)[j]? = some (.int .u8 (joinA A B l1 j)) := by
  have h1 : (newsA A l1).length = l1 * 2 := newsA_len
  unfold joinA
  by_cases h : j < l1 * 2
  · rw [List.getElem?_append_left (by omega), if_pos h]; unfold newsA; simp [h]
  · have h2 : j - l1 * 2 < l2 * 2 := by omega
    rw [List.getElem?_append_right (by omega), if_neg h, h1]; unfold newsA; simp [h2]
/-- The joined row, as a slice. -/
theorem joined {w0 w : World} {A B : Nat → Int} {l1 l2 : Nat} {q : Value} (hA : ∀ j, 0 ≤ A j ∧ A j ≤ 255) (hB : ∀ j, 0 ≤ B j ∧ B j ≤ 255) (hl : l1 + l2 ≤ 3000000) (h : w.ownsRow w0.heap.size 23 2 q (l1 + l2) (newsA A l1 ++ newsA B l2)) : ∃ qp qc, q = .slice qp (l1 + l2) qc ∧ SlD w qp (l1 + l2) qc (joinA A B l1) := by
  have hr : ∀ j, 0 ≤ joinA A B l1 j ∧ joinA A B l1 j ≤ 255 := fun j => by
    unfold joinA
    split
    · exact hA _
    · exact hB _
  obtain ⟨_, h2⟩ := h
  rcases h2 with ⟨rfl, h2⟩ | ⟨g, c, cur, rfl, _, k3, k4, _, k5, k6⟩
  · rw [h2]
    exact ⟨none, 0, rfl, hr, by omega, .inl ⟨rfl, rfl, rfl⟩, fun h => absurd h (Nat.lt_irrefl _)⟩
  · refine ⟨_, _, rfl, hr, hl, .inr ⟨g, 0, rfl⟩, fun _ => ⟨g, 0, rfl, k4, ⟨cur, 23, (0, 0), k3, by rw [k5]; omega, fun i hi => ?_⟩⟩⟩
    have k7 := news_join (A := A) (B := B) hi
    rw [← k6, List.getElem?_take, if_pos hi] at k7
    rw [Nat.zero_add]
    have : cur[i]? = some (.int .u8 (joinA A B l1 i)) := by simpa using k7
    rw [this]
    have e : i % 2 = 0 ∨ i % 2 = 1 := by omega
    rcases e with e | e <;> simp [e]
def allB (A : Nat → Int) (l1 : Nat) : Nat → Bool
  | 0 => true
  | i + 1 => allB A l1 i && (decide (i < l1) && Sx.cellP 1 A (i * 2 + 0))
theorem allB_spec {A : Nat → Int} {l1 : Nat} : ∀ n, allB A l1 n = true → ∀ i, i < n → i < l1 ∧ Sx.cellP 1 A (i * 2 + 0) = true
  | 0, _, i, h => absurd h (Nat.not_lt_zero _)
  | n + 1, h, i, hi => by
    unfold allB at h
    rw [Bool.and_eq_true, Bool.and_eq_true, decide_eq_true_eq] at h
    by_cases e : i = n
    · subst e; exact h.2
    · exact allB_spec n h.1 i (by omega)
noncomputable def Lp7a : Code := .seq (.seq (regOf 8 C7) (.cond (.tmp 39) .skip (.exit 0))) (.seq (.block 1 (.seq (regOf 10 C7) (.cond (.tmp 48) (.seq (regOf 11 C7) .ret) .skip))) (regOf 9 C7))
noncomputable def Lp7b : Code := .seq (.seq (regOf 17 C7) (.cond (.tmp 103) .skip (.exit 2))) (.seq (.block 3 (regOf 19 C7)) (regOf 18 C7))
theorem C7_eq : C7 = .seq (regOf 0 C7) (.seq (regOf 1 C7) (.seq (regOf 2 C7) (.seq (regOf 3 C7) (.seq (regOf 4 C7) (.seq (regOf 5 C7) (.seq (.seq (regOf 6 C7) (.cond (.tmp 30) (.seq (.seq (regOf 7 C7) (.block 0 (.loop Lp7a))) (.seq (regOf 12 C7) .ret)) .skip)) (.seq (.seq (regOf 13 C7) (.cond (.tmp 101) (.seq (regOf 14 C7) .ret) .skip)) (.seq (regOf 15 C7) (.seq (.seq (regOf 16 C7) (.block 2 (.loop Lp7b))) (.seq (regOf 20 C7) .ret)))))))))) := by kernel_rfl
abbrev A10f (g off l1 cap k i : Nat) : List (Nat × Value) := [(0, .slice (some ⟨g, off, none⟩) l1 cap), (5, .int .i64 k), (6, .int .i64 0), (8, .int .i64 k), (9, .int .i64 0), (10, .int .i64 i)]
abbrev A12f (o : Option Addr) (l1 cap : Nat) (re mn me : Int) (b : Bool) (i : Nat) : List (Nat × Value) := [(0, .slice o l1 cap), (6, .int .i64 re), (8, .int .i64 mn), (9, .int .i64 me), (11, .bool b), (12, .int .i64 i)]
section
variable {w0 : World} {o : Option Addr} {l1 cap : Nat} {A : Nat → Int}
theorem belS : Stable (Below w0.heap.size w0) := fun w1 w2 hh hb => hh.trans (hb.mono hh.size)
set_option maxHeartbeats 1000000 in
theorem pushed_loop (n : Nat) {g off k : Nat} (h : SlD w0 (some ⟨g, off, none⟩) l1 cap A) (hk : k < l1) (hk8 : k ≤ 8) (hall : ∀ i, i < k → Sx.cellP 1 A (i * 2 + 0) = true) (a : Act) (w : World) (Q : Exit → Act → World → Prop) (ha : SG (A10f g off l1 cap k 0) 146 (Below w0.heap.size w0) a w)
    (hQ : ∀ a w, SG [(0, .slice (some ⟨g, off, none⟩) l1 cap), (5, .int .i64 k), (6, .int .i64 0), (8, .int .i64 k), (9, .int .i64 0)] 146 (Below w0.heap.size w0) a w → Q .normal a w) : (Code.block 0 (.loop Lp7a)).wpIn Fence.wide n Try.prog Q a w := by
  refine wpIn_block (wpIn_loop (fun a w => ∃ i, i ≤ k ∧ SG (A10f g off l1 cap k i) 146 (Below w0.heap.size w0) a w) (fun a _ => k - slotN 10 a) ⟨0, Nat.zero_le _, ha⟩ ?_)
  rintro a w ⟨i, hi, ha⟩
  have e5 := ha.slot (t := 10) (v := i) (k := .i64) (by simp)
  have hG := ha.wp
  unfold Lp7a
  refine wpIn_seq (wpIn_seq ?_)
  by_cases hlt : i < k
  · refine fs8t n w g off l1 cap k i hlt (by omega) _ a ha.sr ?_
    intro a1 h1
    have h1 := h1.sg hG
    refine wpIn_cond (t := true) (by rw [eval_tmp]; exact h1.kn (39, .bool true) (by simp)) (wpIn_skip (wpIn_seq (wpIn_block ?_)))
    have hkd := h.kdI i
    have hm := hall i hlt
    rw [h.cellP, Bool.and_eq_true] at hm
    refine wpIn_seq (fs10 n belS g off l1 cap k i (kd A i) (by omega) (fun w hh => (h.below hh).kind rfl (by omega)) (fun m w _ => by rw [← hm.2]; exact callsIn_wide.2 (Kc.c20 (kd A i) (by omega) (by omega) w)) _ a1 w (h1.sub (by simp)) ?_)
    intro a2 w2 h2
    have hG2 := h2.wp
    refine wpIn_cond (t := false) (by rw [eval_tmp]; exact h2.kn (48, .bool false) (by simp)) (wpIn_skip ?_)
    show (regOf 9 C7).wpIn _ _ _ _ _ _
    refine fs9 n w2 g off l1 cap k i (by omega) _ a2 (h2.sub (by simp)).sr ?_
    intro a3 h3
    have h3 : SG (A10f g off l1 cap k (i + 1)) 146 (Below w0.heap.size w0) a3 w2 := h3.sg hG2
    exact ⟨⟨i + 1, hlt, h3⟩, by rw [e5, h3.slot (t := 10) (v := i + 1) (k := .i64) (by simp)]; omega⟩
  · refine fs8f n w g off l1 cap k i hlt _ a ha.sr ?_
    intro a1 h1
    have h1 := h1.sg hG
    refine wpIn_cond (t := false) (by rw [eval_tmp]; exact h1.kn (39, .bool false) (by simp)) (wpIn_exit ?_)
    exact hQ a1 w (h1.sub (by simp))
set_option maxHeartbeats 1000000 in
theorem nine_round (n : Nat) (h : SlD w0 o l1 cap A) {re mn me : Int} {i : Nat} (a : Act) (w : World) (Q : Exit → Act → World → Prop) (ha : SG (A12f o l1 cap re mn me (allB A l1 i) i) 146 (Below w0.heap.size w0) a w)
    (hQ : ∀ a w, SG [(0, .slice o l1 cap), (6, .int .i64 re), (8, .int .i64 mn), (9, .int .i64 me), (12, .int .i64 i), (11, .bool (allB A l1 (i + 1)))] 146 (Below w0.heap.size w0) a w → Q .normal a w) : (regOf 19 C7).wpIn Fence.wide n Try.prog Q a w := by
  have es : allB A l1 (i + 1) = (allB A l1 i && (decide (i < l1) && Sx.cellP 1 A (i * 2 + 0))) := rfl
  rw [es] at hQ
  cases eb : allB A l1 i with
  | false =>
    rw [eb] at ha hQ
    exact fs19f n belS o l1 cap re mn me i _ a w ha hQ
  | true =>
  rw [eb] at ha hQ
  by_cases hlt : i < l1
  · obtain ⟨g, off, rfl, _⟩ := h.row (by omega)
    have hkd := h.kdI i
    rw [decide_eq_true hlt, h.cellP, Bool.true_and, Bool.true_and] at hQ
    cases em : K.may (kd A i : Nat) (lv A i : Nat) with
    | false =>
      rw [em, Bool.false_and] at hQ
      exact fs19m n belS g off l1 cap re mn me i (kd A i) (lv A i) hlt (fun w hh => (h.below hh).kind rfl hlt) (fun w hh => (h.below hh).level rfl hlt) (fun m w _ => by rw [← em]; exact callsIn_wide.2 (Kc.c22 (kd A i) (lv A i) (by omega) (by omega) (by omega) (by omega) w)) _ a w ha hQ
    | true =>
      rw [em, Bool.true_and] at hQ
      exact fs19t n belS g off l1 cap re mn me i (kd A i) (lv A i) hlt (Sx.phiB1 1 (kd A i : Nat)) (fun w hh => (h.below hh).kind rfl hlt) (fun w hh => (h.below hh).level rfl hlt) (fun m w _ => by rw [← em]; exact callsIn_wide.2 (Kc.c22 (kd A i) (lv A i) (by omega) (by omega) (by omega) (by omega) w)) (fun m w _ => callsIn_wide.2 (Kc.c20 (kd A i) (by omega) (by omega) w)) _ a w ha hQ
  · rw [decide_eq_false hlt, Bool.false_and, Bool.and_false] at hQ
    exact fs19l n belS o l1 cap re mn me i hlt _ a w ha hQ
set_option maxHeartbeats 1000000 in
theorem nine_loop (n : Nat) (h : SlD w0 o l1 cap A) {re mn me : Int} (a : Act) (w : World) (Q : Exit → Act → World → Prop) (ha : SG (A12f o l1 cap re mn me true 0) 146 (Below w0.heap.size w0) a w)
    (hQ : ∀ a w, SG [(6, .int .i64 re), (8, .int .i64 mn), (9, .int .i64 me), (11, .bool (allB A l1 9))] 146 (Below w0.heap.size w0) a w → Q .normal a w) : (Code.block 2 (.loop Lp7b)).wpIn Fence.wide n Try.prog Q a w := by
  refine wpIn_block (wpIn_loop (fun a w => ∃ i, i ≤ 9 ∧ SG (A12f o l1 cap re mn me (allB A l1 i) i) 146 (Below w0.heap.size w0) a w) (fun a _ => 9 - slotN 12 a) ⟨0, Nat.zero_le _, ha⟩ ?_)
  rintro a w ⟨i, hi, ha⟩
  have e5 := ha.slot (t := 12) (v := i) (k := .i64) (by simp)
  have hG := ha.wp
  unfold Lp7b
  refine wpIn_seq (wpIn_seq (fs17 n w o l1 cap re mn me (allB A l1 i) i _ a ha.sr ?_))
  intro a1 h1
  have h1 := h1.sg hG
  by_cases hlt : i < 9
  · refine wpIn_cond (t := true) (by rw [eval_tmp, h1.kn (103, .bool (decide ((i : Int) < 9))) (by simp), decide_eq_true (by omega)]) (wpIn_skip (wpIn_seq (wpIn_block ?_)))
    refine nine_round (re := re) (mn := mn) (me := me) (i := i) n h a1 w _ (h1.sub (by simp)) ?_
    intro a2 w2 h2
    show (regOf 18 C7).wpIn _ _ _ _ _ _
    have hG2 := h2.wp
    refine fs18 n w2 o l1 cap re mn me (allB A l1 (i + 1)) i (by omega) _ a2 (h2.sub (by simp)).sr ?_
    intro a3 h3
    have h3 : SG (A12f o l1 cap re mn me (allB A l1 (i + 1)) (i + 1)) 146 (Below w0.heap.size w0) a3 w2 := h3.sg hG2
    exact ⟨⟨i + 1, hlt, h3⟩, by rw [e5, h3.slot (t := 12) (v := i + 1) (k := .i64) (by simp)]; omega⟩
  · refine wpIn_cond (t := false) (by rw [eval_tmp, h1.kn (103, .bool (decide ((i : Int) < 9))) (by simp), decide_eq_false (by omega)]) (wpIn_exit ?_)
    obtain rfl : i = 9 := by omega
    exact hQ a1 w (h1.sub (by simp))
end
set_option maxHeartbeats 2000000 in
theorem short_in (n M : Nat) (w0 : World) (s0 s1 : Value) (hM : M ≤ 1500000) (hs0 : Sx.SlIn w0 [.u8, .u8] M s0) (hs1 : Sx.SlIn w0 [.u8, .u8] M s1) : CallsIn Fence.wide n Try.prog 7 #[s0, s1] w0 fun e w' => e = .returned (.bool true) ∧ Below w0.heap.size w0 w' := by
  obtain ⟨o, l1, cap, A, rfl, m1, hA⟩ := slD_of (by omega) hs0
  obtain ⟨o2, l2, cap2, B, rfl, m2, hB⟩ := slD_of (by omega) hs1
  refine callsIn_of_wp Try.func7 rfl trivial ?_
  show C7.wpIn _ _ _ _ _ _
  rw [C7_eq]
  refine wpIn_seq (fs0 n w0 o l1 cap (.slice o2 l2 cap2) _ _ ⟨by simp [Try.ntmps7], rfl, by simp [Try.ntmps7], rfl⟩ ?_)
  intro a1 h1
  have ret : ∀ a w, SG [(4, .bool true)] 146 (Below w0.heap.size w0) a w → bodyPost Try.prog Try.f7 (fun e w' => e = .returned (.bool true) ∧ Below w0.heap.size w0 w') .ret a w := fun a w h =>
    ⟨h.defers, _, results_tmp (t := 4) rfl _ _ _, by rw [Array.getD_eq_getD_getElem?, h.kn (4, .bool true) (by simp)], h.wp⟩
  have hw : ∀ m w, Below w0.heap.size w0 w → CallsIn Fence.wide m Try.prog 11 #[] w fun e w' => e = .returned (.bool true) ∧ Below w.heap.size w w' := fun m w _ => callsIn_wide.2 (Kc.c11 w)
  refine wpIn_seq (fs1 n belS o l1 cap (.slice o2 l2 cap2) (Fa.rowN A l1) (Fa.rowE A l1) (fun m w hh => row_in m w (hA.below hh)) _ a1 w0 (h1.sg (Below.refl _ _)) ?_)
  intro a2 w2 h2
  have hG2 := h2.wp
  refine wpIn_seq (fs2 n w2 o l1 cap (.slice o2 l2 cap2) (Fa.rowN A l1) (Fa.rowE A l1) _ a2 h2.sr ?_)
  intro a3 h3
  have h3 := h3.sg hG2
  have grow : ∀ {q : Value} {l : Nat} {xs : List Value} {w1 w2 : World}, Below w0.heap.size w0 w1 → w1.ownsRow w0.heap.size 23 2 q l xs → w1.grownBy w2 q.ownBlock → Below w0.heap.size w0 w2 := fun hb ho hg => hb.grown hg hb.size (fun k hk => (ho.lt k hk).1)
  have step4 : ∀ q a w, SG [(0, .slice o l1 cap), (1, .slice o2 l2 cap2), (5, .int .i64 (Fa.rowN A l1)), (6, .int .i64 (Fa.rowE A l1)), (7, q)] 146 (fun w => Below w0.heap.size w0 w ∧ w.ownsRow w0.heap.size 23 2 q l1 (newsA A l1)) a w → ∀ Q : Exit → Act → World → Prop,
      (∀ q a w, SG [(0, .slice o l1 cap), (5, .int .i64 (Fa.rowN A l1)), (6, .int .i64 (Fa.rowE A l1)), (7, q)] 146 (fun w => Below w0.heap.size w0 w ∧ w.ownsRow w0.heap.size 23 2 q (l1 + l2) (newsA A l1 ++ newsA B l2)) a w → Q .normal a w) → (regOf 4 C7).wpIn Fence.wide n Try.prog Q a w := by
    intro q a w h Q hQ
    rcases hB.shape with ⟨rfl, rfl, rfl⟩ | ⟨g, off, rfl⟩
    · obtain ⟨qp, qc, rfl, _⟩ := ownsRow_shape h.wp.2
      have hqc : l1 ≤ qc := by
        rcases h.wp.2.2 with ⟨_, k⟩ | ⟨g, c, _, k, _, _, k2, _⟩
        · omega
        · cases k; exact k2
      have hG := h.wp
      refine fs4n n w (.slice o l1 cap) qp l1 qc (Fa.rowN A l1) (Fa.rowE A l1) hqc _ a h.sr ?_
      intro a' h'
      exact hQ _ a' w (h'.sg ⟨hG.1, by have := hG.2; simpa [newsA] using this⟩)
    · exact fs4 n (G := fun w => Below w0.heap.size w0 w ∧ w.ownsRow w0.heap.size 23 2 q l1 (newsA A l1)) (.slice o l1 cap) q g off l1 l2 cap2 (newsA A l1) (Fa.rowN A l1) (Fa.rowE A l1) w0.heap.size (fun w hh => hh.2) (fun w hh => hh.1.size) (newsA B l2) newsA_len
        (fun w hh j u hj => by
          obtain ⟨k1, rfl⟩ := newsA_get hj
          exact ((hB.below hh.1).cell rfl k1).1) newsA_one (by omega) (fun q' w => Below w0.heap.size w0 w ∧ w.ownsRow w0.heap.size 23 2 q' (l1 + l2) (newsA A l1 ++ newsA B l2)) (fun w1 w2 q' hh ho hg => ⟨grow hh.1 hh.2 hg, ho⟩) _ a w h hQ
  have step3 : ∀ Q : Exit → Act → World → Prop, (∀ q a w, SG [(0, .slice o l1 cap), (1, .slice o2 l2 cap2), (5, .int .i64 (Fa.rowN A l1)), (6, .int .i64 (Fa.rowE A l1)), (7, q)] 146 (fun w => Below w0.heap.size w0 w ∧ w.ownsRow w0.heap.size 23 2 q l1 (newsA A l1)) a w → Q .normal a w) → (regOf 3 C7).wpIn Fence.wide n Try.prog Q a3 w2 := by
    intro Q hQ
    rcases hA.shape with ⟨rfl, rfl, rfl⟩ | ⟨g, off, rfl⟩
    · refine fs3n n w2 (.slice o2 l2 cap2) (Fa.rowN A 0) (Fa.rowE A 0) _ a3 h3.sr ?_
      intro a' h'
      exact hQ _ a' w2 (h'.sg ⟨hG2, World.ownsRow_nil _ _ _ _⟩)
    · exact fs3 n (G := Below w0.heap.size w0) g off l1 cap (.slice o2 l2 cap2) (Fa.rowN A l1) (Fa.rowE A l1) w0.heap.size (fun w hh => World.ownsRow_nil _ _ _ _) (fun w hh => hh.size) (newsA A l1) newsA_len
        (fun w hh j u hj => by
          obtain ⟨k1, rfl⟩ := newsA_get hj
          exact ((hA.below hh).cell rfl k1).1) newsA_one (by omega) (fun q' w => Below w0.heap.size w0 w ∧ w.ownsRow w0.heap.size 23 2 q' l1 (newsA A l1)) (fun w1 w2 q' hh ho hg => ⟨grow hh (World.ownsRow_nil _ _ _ _) hg, by simpa using ho⟩) _ a3 w2 h3 hQ
  refine wpIn_seq (step3 _ ?_)
  intro q a4 w4 h4
  refine wpIn_seq (step4 q a4 w4 h4 _ ?_)
  intro q a5 w5 h5
  have hG5 := h5.wp
  obtain ⟨qp, qc, rfl, _⟩ := joined hA.rng hB.rng (by omega) hG5.2
  refine wpIn_seq (fs5 n (G := fun w => Below w0.heap.size w0 w ∧ w.ownsRow w0.heap.size 23 2 (.slice qp (l1 + l2) qc) (l1 + l2) (newsA A l1 ++ newsA B l2)) (fun w1 w2 hh hb => ⟨belS w1 w2 hh.1 hb, ownsRow_below hh.2 hb⟩) o l1 cap (Fa.rowN A l1) (Fa.rowE A l1) qp (l1 + l2) qc (Fa.rowN (joinA A B l1) (l1 + l2)) (Fa.rowE (joinA A B l1) (l1 + l2))
    (fun m w hh => by
      obtain ⟨qp', qc', e, hj⟩ := joined hA.rng hB.rng (by omega) hh.2
      cases e
      exact row_in m w hj) _ a5 w5 h5 ?_)
  intro a6 w6 h6
  have h6 : SG _ 146 (Below w0.heap.size w0) a6 w6 := ⟨h6.size, h6.defers, h6.kn, h6.wp.1⟩
  have hG6 := h6.wp
  refine wpIn_seq (wpIn_seq (fs6 n w6 o l1 cap (Fa.rowN A l1) (Fa.rowE A l1) (Fa.rowN (joinA A B l1) (l1 + l2)) (Fa.rowE (joinA A B l1) (l1 + l2)) _ a6 h6.sr ?_))
  intro a7 h7
  have h7 := h7.sg hG6
  by_cases he : Fa.rowE A l1 = 0
  · refine wpIn_cond (t := true) (by rw [eval_tmp, h7.kn (30, .bool (Fa.rowE A l1 == 0)) (by simp), he]; rfl) ?_
    obtain ⟨k, k0, k8, kl, kall, ky, e1, e2, e3⟩ := short_ok (B := B) (l2 := l2) he
    rw [he, e1, e2, e3] at h7
    obtain ⟨g, off, rfl, _⟩ := hA.row (by omega)
    refine wpIn_seq (wpIn_seq (fs7 n w6 g off l1 cap k _ a7 (h7.sub (by simp)).sr ?_))
    intro a8 h8
    refine pushed_loop n hA kl k8 kall a8 w6 _ (h8.sg hG6) ?_
    intro a9 w9 h9
    have hkd := hA.kdI k
    rw [hA.cellP, Bool.and_eq_true] at ky
    refine wpIn_seq (fs12 n belS g off l1 cap k (kd A k) k0 k8 kl (fun w hh => (hA.below hh).kind rfl kl) (fun m w _ => by rw [← ky.2]; exact callsIn_wide.2 (Kc.c21 (kd A k) (by omega) (by omega) w)) hw _ a9 w9 h9 ?_)
    intro a10 w10 h10
    exact wpIn_ret (ret a10 w10 h10)
  refine wpIn_cond (t := false) (by rw [eval_tmp, h7.kn (30, .bool (Fa.rowE A l1 == 0)) (by simp)]; simp [he]) (wpIn_skip ?_)
  have ez := short_zero he
  have hre : Fa.rowE A l1 = 5 ∨ Fa.rowE A l1 = 12 := by
    unfold Fa.rowE at he ⊢
    split
    · exact .inl rfl
    · rename_i hn
      rw [if_neg hn] at he
      split
      · exact .inr rfl
      · rename_i hb
        rw [if_neg hb] at he
        exact absurd rfl he
  rw [ez] at h7
  have mid : ∀ a w, SG [(0, .slice o l1 cap), (5, .int .i64 0), (6, .int .i64 (Fa.rowE A l1)), (8, .int .i64 (Fa.rowN (joinA A B l1) (l1 + l2))), (9, .int .i64 (Fa.rowE (joinA A B l1) (l1 + l2))), (101, .bool false)] 146 (Below w0.heap.size w0) a w →
      (Code.seq (regOf 15 C7) (.seq (.seq (regOf 16 C7) (.block 2 (.loop Lp7b))) (.seq (regOf 20 C7) .ret))).wpIn Fence.wide n Try.prog (bodyPost Try.prog Try.f7 fun e w' => e = .returned (.bool true) ∧ Below w0.heap.size w0 w') a w := by
    intro a w h
    have hG := h.wp
    refine wpIn_seq (fs15 n w o l1 cap (Fa.rowE A l1) (Fa.rowN (joinA A B l1) (l1 + l2)) (Fa.rowE (joinA A B l1) (l1 + l2)) _ a (h.sub (by simp)).sr ?_)
    intro a2 h2
    refine wpIn_seq (wpIn_seq (fs16 n w o l1 cap (Fa.rowE A l1) (Fa.rowN (joinA A B l1) (l1 + l2)) (Fa.rowE (joinA A B l1) (l1 + l2)) _ a2 h2 ?_))
    intro a3 h3
    refine nine_loop n hA a3 w _ (h3.sg hG) ?_
    intro a4 w4 h4
    cases eb : allB A l1 9 with
    | false =>
      rw [eb] at h4
      refine wpIn_seq (fs20f n belS (Fa.rowE A l1) (Fa.rowN (joinA A B l1) (l1 + l2)) (Fa.rowE (joinA A B l1) (l1 + l2)) hw _ a4 w4 h4 ?_)
      intro a5 w5 h5
      exact wpIn_ret (ret a5 w5 h5)
    | true =>
      obtain ⟨k1, k2, k3⟩ := short_nine (B := B) (l2 := l2) (allB_spec 9 eb)
      rw [eb, k1, k2, k3] at h4
      refine wpIn_seq (fs20t n belS hw _ a4 w4 h4 ?_)
      intro a5 w5 h5
      exact wpIn_ret (ret a5 w5 h5)
  refine wpIn_seq (wpIn_seq ?_)
  rcases hre with hre | hre
  · by_cases hl : 0 < l1
    · obtain ⟨k1, k2⟩ := short_none (B := B) (l2 := l2) hre hl
      rw [hre, k1, k2] at h7 mid
      refine fs13a n w6 o l1 cap hl _ a7 (h7.sub (by simp)).sr ?_
      intro a8 h8
      have h8 := h8.sg hG6
      refine wpIn_cond (t := false) (by rw [eval_tmp]; exact h8.kn (101, .bool false) (by simp)) (wpIn_skip ?_)
      exact mid a8 w6 h8
    · obtain rfl : l1 = 0 := by omega
      rw [hre] at h7 mid
      refine fs13b n w6 o cap (Fa.rowN (joinA A B 0) (0 + l2)) (Fa.rowE (joinA A B 0) (0 + l2)) _ a7 (h7.sub (by simp)).sr ?_
      intro a8 h8
      have h8 := h8.sg hG6
      refine wpIn_cond (t := false) (by rw [eval_tmp]; exact h8.kn (101, .bool false) (by simp)) (wpIn_skip ?_)
      exact mid a8 w6 h8
  · rw [hre] at h7 mid
    refine fs13c n w6 o l1 cap (Fa.rowN (joinA A B l1) (l1 + l2)) (Fa.rowE (joinA A B l1) (l1 + l2)) _ a7 (h7.sub (by simp)).sr ?_
    intro a8 h8
    have h8 := h8.sg hG6
    refine wpIn_cond (t := false) (by rw [eval_tmp]; exact h8.kn (101, .bool false) (by simp)) (wpIn_skip ?_)
    exact mid a8 w6 h8
end Go.Proofs.Ytdkdoopimfchbaa
