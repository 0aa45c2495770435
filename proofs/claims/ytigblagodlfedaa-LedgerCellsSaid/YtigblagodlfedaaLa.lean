/- The land's chunk as a row of bytes; the loops that write it and count in it. -/
import Derived.Test.YtigblagodlfedaaKc
import Derived.Test.YtigblagodlfedaaSyf
namespace Go.Proofs.Ytigblagodlfedaa.La
open Go.RowKit
open Sx (Val Bds Holds holds_cons holds_nil)
set_option linter.unusedVariables false

def cellK (y : Int) : Int := if (y == 0) = true then 1 else if decide (15 < y) = true then 0 else if decide (11 < y) = true then 3 else 2
def cellL (y : Int) : Int := if decide (15 < y) = true then 15 else 0
theorem cellK_bd (y : Int) : 0 ≤ cellK y ∧ cellK y ≤ 255 := by
  unfold cellK
  split
  · omega
  · split
    · omega
    · split <;> omega
theorem cellL_bd (y : Int) : 0 ≤ cellL y ∧ cellL y ≤ 255 := by unfold cellL; split <;> omega
def landRow (Y : Int) : Nat → Int := fun m => if m % 2 = 1 then 0 else if m < 8192 then cellK (Y * 16 + ((m / 512 : Nat) : Int)) else if m < 16384 then cellL (Y * 16 + (((m - 8192) / 512 : Nat) : Int)) else 0
theorem landRow_bd (Y : Int) (m : Nat) : 0 ≤ landRow Y m ∧ landRow Y m ≤ 255 := by
  unfold landRow
  split
  · omega
  · split
    · exact cellK_bd _
    · split
      · exact cellL_bd _
      · omega
def part (Y : Int) (i : Nat) : Nat → Int := fun m => if m < 2 * i ∨ (8192 ≤ m ∧ m < 8192 + 2 * i) then landRow Y m else 0
theorem part_0 (Y : Int) : part Y 0 = fun _ => 0 := by funext m; unfold part; rw [if_neg (by omega)]
theorem part_all (Y : Int) : part Y 4096 = landRow Y := by
  funext m
  unfold part
  by_cases h : m < 16384
  · rw [if_pos (by omega)]
  · rw [if_neg (by omega)]
    unfold landRow
    split
    · rfl
    · simp [show ¬ m < 8192 by omega]
/-- How many of a row's first cells are movable. -/
def cnt (A : Nat → Int) : Nat → Nat
  | 0 => 0
  | i + 1 => cnt A i + if Sx.phiB1 1 (A (2 * i)) = true then 1 else 0
theorem cnt_le (A : Nat → Int) : ∀ i, cnt A i ≤ i
  | 0 => Nat.le_refl _
  | i + 1 => by have := cnt_le A i; unfold cnt; split <;> omega

/-! ### Symbols: the spot, how many; the row -/
def I64 : Int × Int := (-9223372036854775808, 9223372036854775807)
def bsL : Bds where
  v := [I64, I64, I64, (0, 4096)]
  a := [(0, 255)]
  J := fun ρ => ρ.a 0 = landRow (ρ.i 1) ∧ ρ.i 3 = (cnt (ρ.a 0) 4096 : Nat)
theorem pro (zs : List Int) (bs : List Bool) (ss : List ByteArray) (hf : Sx.Fit [.i64, .i64, .i64] zs) :
    ∃ ρ : Val, (∀ j, j < zs.length → ρ.i j = zs.getD j 0) ∧ (∀ j, j < bs.length → ρ.b j = bs.getD j false) ∧ (∀ j, j < ss.length → ρ.s j = ss.getD j ByteArray.empty) ∧ bsL.hold ρ := by
  have hl : zs.length = 3 := hf.length
  have hc := cnt_le (landRow (zs.getD 1 0)) 4096
  refine ⟨⟨fun i => if i = 3 then cnt (landRow (zs.getD 1 0)) 4096 else zs.getD i 0, fun i => bs.getD i false, fun j => if j = 0 then landRow (zs.getD 1 0) else fun _ => 0, fun i => ss.getD i ByteArray.empty⟩, fun j hj => ?_, fun j _ => rfl, fun j _ => rfl, fun i l u h => ?_, fun i l u h n => ?_, rfl, rfl⟩
  · show (if j = 3 then _ else _) = _; rw [if_neg (by omega)]
  · rcases i with _ | _ | _ | _ | i
    · simp [bsL, I64] at h; obtain ⟨rfl, rfl⟩ := h; exact hf.get 0 _ _ rfl
    · simp [bsL, I64] at h; obtain ⟨rfl, rfl⟩ := h; exact hf.get 1 _ _ rfl
    · simp [bsL, I64] at h; obtain ⟨rfl, rfl⟩ := h; exact hf.get 2 _ _ rfl
    · simp [bsL, I64] at h; obtain ⟨rfl, rfl⟩ := h; show 0 ≤ ((cnt (landRow (zs.getD 1 0)) 4096 : Nat) : Int) ∧ ((cnt (landRow (zs.getD 1 0)) 4096 : Nat) : Int) ≤ 4096; omega
    · simp [bsL] at h
  · rcases i with _ | i
    · simp [bsL] at h; obtain ⟨rfl, rfl⟩ := h; exact landRow_bd _ n
    · simp [bsL] at h
theorem sameL (ρ v : Val) (hs : Sx.SameB ⟨100, [], [], []⟩ v ρ) (h : bsL.hold ρ) : bsL.hold v := Sx.hold_same hs (by decide) (by decide) (fun hJ => by
  refine ⟨?_, ?_⟩
  · rw [Sx.same_a hs (by decide), Sx.same_i hs (by decide)]; exact hJ.1
  · rw [Sx.same_i hs (by decide), Sx.same_a hs (by decide)]; exact hJ.2) h

/-! ### The loop that writes the land -/
def v100 : Sx.E := .var 100
def v101 : Sx.E := .var 101
def yE : Sx.E := .bin .add (.bin .mul (.var 1) (.lit 16)) (.bin .div v100 (.lit 256))
def kE : Sx.E := .ite (.bin .eq yE (.lit 0)) (.lit 1) (.ite (.bin .lt (.lit 15) yE) (.lit 0) (.ite (.bin .lt (.lit 11) yE) (.lit 3) (.lit 2)))
def lE : Sx.E := .ite (.bin .lt (.lit 15) yE) (.lit 15) (.lit 0)
def o0 : Sx.E := .bin .mul v100 (.lit 2)
def o1 : Sx.E := .bin .add o0 (.lit 1)
def o2 : Sx.E := .bin .add o0 (.lit 8192)
def o3 : Sx.E := .bin .add o0 (.lit 8193)
def stepX (kx lx : Sx.E) : Sx.E := .upd (.upd (.upd (.upd (.av 100) o0 kx) o1 (.lit 0)) o2 lx) o3 (.lit 0)
def head (l : List (Sx.E × Bool)) : List (Sx.E × Bool) := (.bin .lt v100 (.lit 0), false) :: (.bin .lt (.lit 4096) v100, false) :: l
def lt4 : Sx.E := .bin .lt v100 (.lit 4096)
def spW (kx lx : Sx.E) (slot b ex : Nat) : Sx.LSpec where
  M := 100
  tpl := [(slot, .c (.int .i64 v100))]
  tplB := [(b, .arr (.av 100) [.u8] (.lit 0) (.lit 16384) 49 1 [.nils])]
  ini := { i := [(100, .lit 0)], a := [(100, .bl false)] }
  hfs := head []
  d := [b]
  ways := [{ tests := [(lt4, true)], σ := { i := [(100, .bin .add v100 (.lit 1))], a := [(100, stepX kx lx)] } },
    { tests := [(lt4, false)], ex := .exit ex, kd := .out, σ := { i := [(100, v100)], a := [(100, .av 100)] }, fin := { i := [(100, .lit 4096)], a := [(100, .av 0)] } }]
theorem step {kx lx : Sx.E} {y : Nat} (hkx : ∀ v : Val, kx.I v = cellK (v.i y * 16 + v.i 100 / 256)) (hlx : ∀ v : Val, lx.I v = cellL (v.i y * 16 + v.i 100 / 256)) {v : Val} {Y : Int} {i : Nat} (hi : v.i 100 = i) (hlt : i < 4096) (hY : v.i y = Y) (ha : v.a 100 = part Y i) : (stepX kx lx).A v = part Y (i + 1) := by
  funext m
  have e0 : (o0.I v).toNat = 2 * i := by show (v.i 100 * 2).toNat = _; omega
  have e1 : (o1.I v).toNat = 2 * i + 1 := by show (v.i 100 * 2 + 1).toNat = _; omega
  have e2 : (o2.I v).toNat = 2 * i + 8192 := by show (v.i 100 * 2 + 8192).toNat = _; omega
  have e3 : (o3.I v).toNat = 2 * i + 8193 := by show (v.i 100 * 2 + 8193).toNat = _; omega
  have hy : v.i y * 16 + v.i 100 / 256 = Y * 16 + ((i / 256 : Nat) : Int) := by rw [hY, hi]; omega
  have hk : kx.I v = cellK (Y * 16 + ((i / 256 : Nat) : Int)) := by rw [hkx, hy]
  have hl : lx.I v = cellL (Y * 16 + ((i / 256 : Nat) : Int)) := by rw [hlx, hy]
  show (if m = (o3.I v).toNat then (0 : Int) else if m = (o2.I v).toNat then lx.I v else if m = (o1.I v).toNat then 0 else if m = (o0.I v).toNat then kx.I v else v.a 100 m) = _
  rw [e0, e1, e2, e3, ha, hk, hl]
  unfold part
  by_cases h3 : m = 2 * i + 8193
  · rw [if_pos h3, if_pos (by omega)]; unfold landRow; rw [if_pos (by omega)]
  · rw [if_neg h3]
    by_cases h2 : m = 2 * i + 8192
    · rw [if_pos h2, if_pos (by omega)]; unfold landRow
      rw [if_neg (by omega), if_neg (by omega), if_pos (by omega), show (m - 8192) / 512 = i / 256 from by omega]
    · rw [if_neg h2]
      by_cases h1 : m = 2 * i + 1
      · rw [if_pos h1, if_pos (by omega)]; unfold landRow; rw [if_pos (by omega)]
      · rw [if_neg h1]
        by_cases h0 : m = 2 * i
        · rw [if_pos h0, if_pos (by omega)]; unfold landRow
          rw [if_neg (by omega), if_pos (by omega), show m / 512 = i / 256 from by omega]
        · rw [if_neg h0]
          by_cases hc : m < 2 * i ∨ (8192 ≤ m ∧ m < 8192 + 2 * i)
          · rw [if_pos hc, if_pos (by omega)]
          · rw [if_neg hc, if_neg (by omega)]
theorem goodW {bs : Bds} {y : Nat} (hy : y < 100) (same : ∀ ρ v, Sx.SameB ⟨100, [], [], []⟩ v ρ → bs.hold ρ → bs.hold v) (hrow : ∀ ρ, bs.hold ρ → ρ.a 0 = landRow (ρ.i y)) {kx lx : Sx.E} (hkx : ∀ v : Val, kx.I v = cellK (v.i y * 16 + v.i 100 / 256)) (hlx : ∀ v : Val, lx.I v = cellL (v.i y * 16 + v.i 100 / 256)) (slot b ex : Nat) : ∃ J μ, Sx.Good bs (spW kx lx slot b ex) J μ := ⟨fun ρ v => ∃ i : Nat, v.i 100 = i ∧ i ≤ 4096 ∧ v.a 100 = part (ρ.i y) i, fun ρ v => ((4096 : Int) - v.i 100).toNat, {
  start := fun ρ hb _ => ⟨0, rfl, by omega, by rw [part_0]; rfl⟩
  head := fun ρ v hb _ hs ⟨i, h1, h2, h3⟩ => by
    refine ⟨holds_cons ?_ (holds_cons ?_ holds_nil), same ρ v hs hb⟩
    · show decide (v.i 100 < 0) = false; rw [decide_eq_false_iff_not]; omega
    · show decide ((4096 : Int) < v.i 100) = false; rw [decide_eq_false_iff_not]; omega
  next := fun j w hw hkd ρ v hb _ hs ⟨i, h1, h2, h3⟩ ht => by
    rcases j with _ | _ | j
    · simp only [spW, List.getElem?_cons_zero, Option.some.injEq] at hw
      subst hw
      have a1 : decide (v.i 100 < 4096) = true := ht _ List.mem_cons_self
      rw [decide_eq_true_eq] at a1
      refine ⟨⟨i + 1, ?_, by omega, ?_⟩, ?_⟩
      · show v.i 100 + 1 = _; omega
      · exact step hkx hlx h1 (by omega) (Sx.same_i (M := 100) hs hy) h3
      · show ((4096 : Int) - (v.i 100 + 1)).toNat < ((4096 : Int) - v.i 100).toNat; omega
    · simp only [spW, List.getElem?_cons_zero, List.getElem?_cons_succ, Option.some.injEq] at hw; subst hw; cases hkd
    · simp [spW] at hw
  dead := fun j w hw hkd => by
    rcases j with _ | _ | j
    · simp only [spW, List.getElem?_cons_zero, Option.some.injEq] at hw; subst hw; cases hkd
    · simp only [spW, List.getElem?_cons_zero, List.getElem?_cons_succ, Option.some.injEq] at hw; subst hw; cases hkd
    · simp [spW] at hw
  out := fun j w hw hkd ρ v hb _ hs ⟨i, h1, h2, h3⟩ ht => by
    rcases j with _ | _ | j
    · simp only [spW, List.getElem?_cons_zero, Option.some.injEq] at hw; subst hw; cases hkd
    · simp only [spW, List.getElem?_cons_zero, List.getElem?_cons_succ, Option.some.injEq] at hw
      subst hw
      have a1 : decide (v.i 100 < 4096) = false := ht _ List.mem_cons_self
      rw [decide_eq_false_iff_not] at a1
      have hi : i = 4096 := by omega
      refine ⟨by simp only [spW, Sx.selIx, Sx.E.T, if_true], ⟨fun q hq => ?_, fun q hq => absurd hq (by simp), fun q hq => ?_⟩⟩
      · simp only [List.mem_cons, List.not_mem_nil, or_false] at hq
        subst hq
        show v.i 100 = 4096; omega
      · simp only [List.mem_cons, List.not_mem_nil, or_false] at hq
        subst hq
        show v.a 100 = ρ.a 0
        rw [h3, hi, part_all]; exact (hrow ρ hb).symm
    · simp [spW] at hw
  fin := fun ρ hb _ => by
    simp only [spW, Sx.FactsOk, Sx.E.T, if_true]
    exact holds_nil }⟩

/-- land.Chunk's. -/
def spC (slot b ex : Nat) : Sx.LSpec := spW kE lE slot b ex
theorem goodC (slot b ex : Nat) : ∃ J μ, Sx.Good bsL (spC slot b ex) J μ := goodW (y := 1) (by omega) sameL (fun _ h => h.2.2.1) (fun _ => rfl) (fun _ => rfl) slot b ex
/-- The reference's. -/
def yR : Sx.E := .bin .add (.bin .mul (.lit 16) (.var 1)) (.bin .div v100 (.lit 256))
def kR : Sx.E := .ite (.bin .eq yR (.lit 0)) (.lit 1) (.ite (.bin .lt yR (.lit 12)) (.lit 2) (.ite (.bin .lt yR (.lit 16)) (.lit 3) (.lit 0)))
def lR : Sx.E := .ite (.bin .lt yR (.lit 16)) (.lit 0) (.lit 15)
def spR (slot b ex : Nat) : Sx.LSpec := spW kR lR slot b ex
theorem kR_eq (y : Int) : (if (y == 0) = true then (1 : Int) else if decide (y < 12) = true then 2 else if decide (y < 16) = true then 3 else 0) = cellK y := by
  unfold cellK
  simp only [beq_iff_eq, decide_eq_true_eq]
  repeat' split
  all_goals omega
theorem lR_eq (y : Int) : (if decide (y < 16) = true then (0 : Int) else 15) = cellL y := by
  unfold cellL
  simp only [decide_eq_true_eq]
  repeat' split
  all_goals omega
theorem goodR (slot b ex : Nat) : ∃ J μ, Sx.Good bsL (spR slot b ex) J μ := goodW (y := 1) (by omega) sameL (fun _ h => h.2.2.1)
  (fun v => by rw [show v.i 1 * 16 + v.i 100 / 256 = 16 * v.i 1 + v.i 100 / 256 from by omega, ← kR_eq]; rfl)
  (fun v => by rw [show v.i 1 * 16 + v.i 100 / 256 = 16 * v.i 1 + v.i 100 / 256 from by omega, ← lR_eq]; rfl) slot b ex

/-! ### The loop that counts -/
def mov : Sx.E := .un (.fb 1) (.bin .rd (.av 0) o0)
def spM (si sn ex : Nat) : Sx.LSpec where
  M := 100
  tpl := [(si, .c (.int .i64 v100)), (sn, .c (.int .i64 v101))]
  ini := { i := [(100, .lit 0), (101, .lit 0)] }
  hfs := head [(.bin .lt v101 (.lit 0), false), (.bin .lt (.lit 4096) v101, false)]
  ways := [{ tests := [(lt4, true)], σ := { i := [(100, .bin .add v100 (.lit 1)), (101, .bin .add v101 (.ite mov (.lit 1) (.lit 0)))] } },
    { tests := [(lt4, false)], ex := .exit ex, kd := .out, σ := { i := [(100, v100), (101, v101)] }, fin := { i := [(100, .lit 4096), (101, .var 3)] } }]
theorem goodM (si sn ex : Nat) : ∃ J μ, Sx.Good bsL (spM si sn ex) J μ := ⟨fun ρ v => ∃ i : Nat, v.i 100 = i ∧ i ≤ 4096 ∧ v.i 101 = (cnt (ρ.a 0) i : Nat), fun ρ v => ((4096 : Int) - v.i 100).toNat, {
  start := fun ρ hb _ => ⟨0, rfl, by omega, rfl⟩
  head := fun ρ v hb _ hs ⟨i, h1, h2, h3⟩ => by
    have hc := cnt_le (ρ.a 0) i
    refine ⟨holds_cons ?_ (holds_cons ?_ (holds_cons ?_ (holds_cons ?_ holds_nil))), sameL ρ v hs hb⟩
    · show decide (v.i 100 < 0) = false; rw [decide_eq_false_iff_not]; omega
    · show decide ((4096 : Int) < v.i 100) = false; rw [decide_eq_false_iff_not]; omega
    · show decide (v.i 101 < 0) = false; rw [decide_eq_false_iff_not]; omega
    · show decide ((4096 : Int) < v.i 101) = false; rw [decide_eq_false_iff_not]; omega
  next := fun j w hw hkd ρ v hb _ hs ⟨i, h1, h2, h3⟩ ht => by
    rcases j with _ | _ | j
    · simp only [spM, List.getElem?_cons_zero, Option.some.injEq] at hw
      subst hw
      have a1 : decide (v.i 100 < 4096) = true := ht _ List.mem_cons_self
      rw [decide_eq_true_eq] at a1
      have hm : mov.T v = Sx.phiB1 1 (ρ.a 0 (2 * i)) := by
        show Sx.phiB1 1 (v.a 0 (v.i 100 * 2).toNat) = _
        rw [Sx.same_a (M := 100) (j := 0) hs (by decide), h1, show ((i : Int) * 2).toNat = 2 * i from by omega]
      refine ⟨⟨i + 1, ?_, by omega, ?_⟩, ?_⟩
      · show v.i 100 + 1 = _; omega
      · show v.i 101 + (if mov.T v = true then (1 : Int) else 0) = _
        have hc : cnt (ρ.a 0) (i + 1) = cnt (ρ.a 0) i + (if Sx.phiB1 1 (ρ.a 0 (2 * i)) = true then 1 else 0) := rfl
        rw [hm, h3, hc]
        split <;> omega
      · show ((4096 : Int) - (v.i 100 + 1)).toNat < ((4096 : Int) - v.i 100).toNat; omega
    · simp only [spM, List.getElem?_cons_zero, List.getElem?_cons_succ, Option.some.injEq] at hw; subst hw; cases hkd
    · simp [spM] at hw
  dead := fun j w hw hkd => by
    rcases j with _ | _ | j
    · simp only [spM, List.getElem?_cons_zero, Option.some.injEq] at hw; subst hw; cases hkd
    · simp only [spM, List.getElem?_cons_zero, List.getElem?_cons_succ, Option.some.injEq] at hw; subst hw; cases hkd
    · simp [spM] at hw
  out := fun j w hw hkd ρ v hb _ hs ⟨i, h1, h2, h3⟩ ht => by
    rcases j with _ | _ | j
    · simp only [spM, List.getElem?_cons_zero, Option.some.injEq] at hw; subst hw; cases hkd
    · simp only [spM, List.getElem?_cons_zero, List.getElem?_cons_succ, Option.some.injEq] at hw
      subst hw
      have a1 : decide (v.i 100 < 4096) = false := ht _ List.mem_cons_self
      rw [decide_eq_false_iff_not] at a1
      have hi : i = 4096 := by omega
      refine ⟨by simp only [spM, Sx.selIx, Sx.E.T, if_true], ⟨fun q hq => ?_, fun q hq => absurd hq (by simp), fun q hq => absurd hq (by simp)⟩⟩
      simp only [List.mem_cons, List.not_mem_nil, or_false] at hq
      rcases hq with rfl | rfl
      · show v.i 100 = 4096; omega
      · show v.i 101 = ρ.i 3
        rw [h3, hi]; exact hb.2.2.2.symm
    · simp [spM] at hw
  fin := fun ρ hb _ => by
    simp only [spM, Sx.FactsOk, Sx.E.T, if_true]
    exact holds_nil }⟩

/-! ### How many there are -/
def sumK (Y : Int) : Nat → Nat
  | 0 => 0
  | b + 1 => sumK Y b + if Sx.phiB1 1 (cellK (Y * 16 + (b : Nat))) = true then 256 else 0
theorem cnt_block (A : Nat → Int) (b : Nat) (c : Bool) (h : ∀ j, j < 256 → Sx.phiB1 1 (A (2 * (256 * b + j))) = c) : ∀ k, k ≤ 256 → cnt A (256 * b + k) = cnt A (256 * b) + if c = true then k else 0
  | 0, _ => by simp
  | k + 1, hk => by
    have ih := cnt_block A b c h k (by omega)
    have hc : cnt A (256 * b + k + 1) = cnt A (256 * b + k) + (if Sx.phiB1 1 (A (2 * (256 * b + k))) = true then 1 else 0) := rfl
    rw [← Nat.add_assoc, hc, ih, h k (by omega)]
    split <;> omega
theorem cnt_sum (Y : Int) : ∀ b, b ≤ 16 → cnt (landRow Y) (256 * b) = sumK Y b
  | 0, _ => rfl
  | b + 1, hb => by
    have h := cnt_block (landRow Y) b (Sx.phiB1 1 (cellK (Y * 16 + (b : Nat)))) (fun j hj => by
      unfold landRow
      rw [if_neg (by omega), if_pos (by omega), show 2 * (256 * b + j) / 512 = b from by omega]) 256 (Nat.le_refl _)
    rw [show 256 * (b + 1) = 256 * b + 256 from by omega, h, cnt_sum Y b (by omega)]
    rfl
theorem sumK_0 : sumK 0 16 = 3840 := by decide
theorem sumK_pos {Y : Int} (h : 0 < Y) : ∀ b, sumK Y b = 0
  | 0 => rfl
  | b + 1 => by
    have hc : cellK (Y * 16 + (b : Nat)) = 0 := by unfold cellK; rw [if_neg (by rw [beq_iff_eq]; omega), if_pos (by rw [decide_eq_true_eq]; omega)]
    unfold sumK
    rw [hc, sumK_pos h b]; rfl
theorem cnt_all {Y : Int} (h : 0 ≤ Y) : cnt (landRow Y) 4096 = if 0 < Y then 0 else 3840 := by
  have := cnt_sum Y 16 (Nat.le_refl _)
  rw [show 256 * 16 = 4096 from rfl] at this
  rw [this]
  split
  · rename_i hp; exact sumK_pos hp 16
  · rw [show Y = 0 from by omega]; exact sumK_0
/-- The same loop, of a spot: what it comes to is told. -/
def spN (si sn ex : Nat) : Sx.LSpec where
  M := 100
  tpl := [(si, .c (.int .i64 v100)), (sn, .c (.int .i64 v101))]
  ini := { i := [(100, .lit 0), (101, .lit 0)] }
  pre := [(.bin .lt (.var 1) (.lit 0), false)]
  hfs := head [(.bin .lt v101 (.lit 0), false), (.bin .lt (.lit 4096) v101, false)]
  ways := [{ tests := [(lt4, true)], σ := { i := [(100, .bin .add v100 (.lit 1)), (101, .bin .add v101 (.ite mov (.lit 1) (.lit 0)))] } },
    { tests := [(lt4, false)], ex := .exit ex, kd := .out, σ := { i := [(100, v100), (101, v101)] }, fin := { i := [(100, .lit 4096), (101, .ite (.bin .lt (.lit 0) (.var 1)) (.lit 0) (.lit 3840))] } }]
theorem goodN (si sn ex : Nat) : ∃ J μ, Sx.Good bsL (spN si sn ex) J μ := ⟨fun ρ v => ∃ i : Nat, v.i 100 = i ∧ i ≤ 4096 ∧ v.i 101 = (cnt (ρ.a 0) i : Nat), fun ρ v => ((4096 : Int) - v.i 100).toNat, {
  start := fun ρ hb _ => ⟨0, rfl, by omega, rfl⟩
  head := fun ρ v hb hp hs ⟨i, h1, h2, h3⟩ => by
    have hc := cnt_le (ρ.a 0) i
    refine ⟨holds_cons ?_ (holds_cons ?_ (holds_cons ?_ (holds_cons ?_ holds_nil))), sameL ρ v hs hb⟩
    · show decide (v.i 100 < 0) = false; rw [decide_eq_false_iff_not]; omega
    · show decide ((4096 : Int) < v.i 100) = false; rw [decide_eq_false_iff_not]; omega
    · show decide (v.i 101 < 0) = false; rw [decide_eq_false_iff_not]; omega
    · show decide ((4096 : Int) < v.i 101) = false; rw [decide_eq_false_iff_not]; omega
  next := fun j w hw hkd ρ v hb hp hs ⟨i, h1, h2, h3⟩ ht => by
    rcases j with _ | _ | j
    · simp only [spN, List.getElem?_cons_zero, Option.some.injEq] at hw
      subst hw
      have a1 : decide (v.i 100 < 4096) = true := ht _ List.mem_cons_self
      rw [decide_eq_true_eq] at a1
      have hm : mov.T v = Sx.phiB1 1 (ρ.a 0 (2 * i)) := by
        show Sx.phiB1 1 (v.a 0 (v.i 100 * 2).toNat) = _
        rw [Sx.same_a (M := 100) (j := 0) hs (by decide), h1, show ((i : Int) * 2).toNat = 2 * i from by omega]
      refine ⟨⟨i + 1, ?_, by omega, ?_⟩, ?_⟩
      · show v.i 100 + 1 = _; omega
      · show v.i 101 + (if mov.T v = true then (1 : Int) else 0) = _
        have hc : cnt (ρ.a 0) (i + 1) = cnt (ρ.a 0) i + (if Sx.phiB1 1 (ρ.a 0 (2 * i)) = true then 1 else 0) := rfl
        rw [hm, h3, hc]
        split <;> omega
      · show ((4096 : Int) - (v.i 100 + 1)).toNat < ((4096 : Int) - v.i 100).toNat; omega
    · simp only [spN, List.getElem?_cons_zero, List.getElem?_cons_succ, Option.some.injEq] at hw; subst hw; cases hkd
    · simp [spN] at hw
  dead := fun j w hw hkd => by
    rcases j with _ | _ | j
    · simp only [spN, List.getElem?_cons_zero, Option.some.injEq] at hw; subst hw; cases hkd
    · simp only [spN, List.getElem?_cons_zero, List.getElem?_cons_succ, Option.some.injEq] at hw; subst hw; cases hkd
    · simp [spN] at hw
  out := fun j w hw hkd ρ v hb hp hs ⟨i, h1, h2, h3⟩ ht => by
    rcases j with _ | _ | j
    · simp only [spN, List.getElem?_cons_zero, Option.some.injEq] at hw; subst hw; cases hkd
    · simp only [spN, List.getElem?_cons_zero, List.getElem?_cons_succ, Option.some.injEq] at hw
      subst hw
      have a1 : decide (v.i 100 < 4096) = false := ht _ List.mem_cons_self
      rw [decide_eq_false_iff_not] at a1
      have hi : i = 4096 := by omega
      refine ⟨by simp only [spN, Sx.selIx, Sx.E.T, if_true], ⟨fun q hq => ?_, fun q hq => absurd hq (by simp), fun q hq => absurd hq (by simp)⟩⟩
      simp only [List.mem_cons, List.not_mem_nil, or_false] at hq
      rcases hq with rfl | rfl
      · show v.i 100 = 4096; omega
      · show v.i 101 = if decide (0 < ρ.i 1) = true then (0 : Int) else 3840
        have h0 : decide (ρ.i 1 < 0) = false := hp _ List.mem_cons_self
        rw [decide_eq_false_iff_not] at h0
        rw [h3, hi, hb.2.2.1, cnt_all (by omega)]
        by_cases hp0 : 0 < ρ.i 1
        · rw [if_pos hp0, if_pos (by simpa using hp0)]; rfl
        · rw [if_neg hp0, if_neg (by simpa using hp0)]; rfl
    · simp [spN] at hw
  fin := fun ρ hb _ => by
    simp only [spN, Sx.FactsOk, Sx.E.T, if_true]
    exact holds_nil }⟩

/-! ### land.Chunk's loop, where the height stands in any symbol -/
def yV (y : Nat) : Sx.E := .bin .add (.bin .mul (.var y) (.lit 16)) (.bin .div v100 (.lit 256))
def kV (y : Nat) : Sx.E := .ite (.bin .eq (yV y) (.lit 0)) (.lit 1) (.ite (.bin .lt (.lit 15) (yV y)) (.lit 0) (.ite (.bin .lt (.lit 11) (yV y)) (.lit 3) (.lit 2)))
def lV (y : Nat) : Sx.E := .ite (.bin .lt (.lit 15) (yV y)) (.lit 15) (.lit 0)
def spV (y slot b ex : Nat) : Sx.LSpec := spW (kV y) (lV y) slot b ex
theorem goodV {bs : Bds} {y : Nat} (hy : y < 100) (same : ∀ ρ v, Sx.SameB ⟨100, [], [], []⟩ v ρ → bs.hold ρ → bs.hold v) (hrow : ∀ ρ, bs.hold ρ → ρ.a 0 = landRow (ρ.i y)) (slot b ex : Nat) : ∃ J μ, Sx.Good bs (spV y slot b ex) J μ :=
  goodW hy same hrow (fun _ => rfl) (fun _ => rfl) slot b ex

/-! ### At one index -/
theorem landRow_k {Y : Int} {i : Nat} (h : i < 4096) : landRow Y (2 * i) = cellK (Y * 16 + ((i / 256 : Nat) : Int)) := by
  unfold landRow
  rw [if_neg (by omega), if_pos (show 2 * i < 8192 by omega), show 2 * i / 512 = i / 256 from by omega]
theorem landRow_l {Y : Int} {i : Nat} (h : i < 4096) : landRow Y (2 * i + 8192) = cellL (Y * 16 + ((i / 256 : Nat) : Int)) := by
  unfold landRow
  rw [if_neg (by omega), if_neg (show ¬ 2 * i + 8192 < 8192 by omega), if_pos (show 2 * i + 8192 < 16384 by omega), show (2 * i + 8192 - 8192) / 512 = i / 256 from by omega]
theorem landRow_o1 (Y : Int) (i : Nat) : landRow Y (2 * i + 1) = 0 := by unfold landRow; rw [if_pos (by omega)]
theorem landRow_o3 (Y : Int) (i : Nat) : landRow Y (2 * i + 8193) = 0 := by unfold landRow; rw [if_pos (by omega)]
theorem may_k (y : Int) : Sx.phiB2 0 (cellK y) 0 = true := by
  unfold cellK
  split
  · rfl
  · split
    · rfl
    · split <;> rfl
theorem l_15 (y : Int) : cellL y ≤ 15 := by unfold cellL; split <;> omega

/-! ### The loops that look whether all may be -/
def mayE : Sx.E := .bin (.gb 0) (.bin .rd (.av 0) o0) (.bin .rd (.av 0) o1)
def d1 : Sx.E := .bin .lt (.lit 15) (.bin .rd (.av 0) o2)
def d2 : Sx.E := .bin .lt (.lit 15) (.bin .rd (.av 0) o3)
def spK (slot ex : Nat) : Sx.LSpec where
  M := 100
  tpl := [(slot, .c (.int .i64 v100))]
  ini := { i := [(100, .lit 0)] }
  hfs := head []
  ways := [{ tests := [(lt4, true), (mayE, true)], σ := { i := [(100, .bin .add v100 (.lit 1))] } },
    { tests := [(lt4, true), (mayE, false)], ex := .ret, kd := .dead },
    { tests := [(lt4, false)], ex := .exit ex, kd := .out, σ := { i := [(100, v100)] }, fin := { i := [(100, .lit 4096)] } }]
def spL (slot ex : Nat) : Sx.LSpec where
  M := 100
  tpl := [(slot, .c (.int .i64 v100))]
  ini := { i := [(100, .lit 0)] }
  hfs := head []
  ways := [{ tests := [(lt4, true), (d1, false), (d2, false)], σ := { i := [(100, .bin .add v100 (.lit 1))] } },
    { tests := [(lt4, true), (.bin .or d1 d2, true)], ex := .ret, kd := .dead },
    { tests := [(lt4, false)], ex := .exit ex, kd := .out, σ := { i := [(100, v100)] }, fin := { i := [(100, .lit 4096)] } }]
theorem goodK {bs : Bds} {y : Nat} (hy : y < 100) (same : ∀ ρ v, Sx.SameB ⟨100, [], [], []⟩ v ρ → bs.hold ρ → bs.hold v) (hrow : ∀ ρ, bs.hold ρ → ρ.a 0 = landRow (ρ.i y)) (slot ex : Nat) : ∃ J μ, Sx.Good bs (spK slot ex) J μ := ⟨fun ρ v => ∃ i : Nat, v.i 100 = i ∧ i ≤ 4096, fun ρ v => ((4096 : Int) - v.i 100).toNat, {
  start := fun ρ hb _ => ⟨0, rfl, by omega⟩
  head := fun ρ v hb _ hs ⟨i, h1, h2⟩ => by
    refine ⟨holds_cons ?_ (holds_cons ?_ holds_nil), same ρ v hs hb⟩
    · show decide (v.i 100 < 0) = false; rw [decide_eq_false_iff_not]; omega
    · show decide ((4096 : Int) < v.i 100) = false; rw [decide_eq_false_iff_not]; omega
  next := fun j w hw hkd ρ v hb _ hs ⟨i, h1, h2⟩ ht => by
    rcases j with _ | _ | _ | j
    · simp only [spK, List.getElem?_cons_zero, Option.some.injEq] at hw
      subst hw
      have a1 : decide (v.i 100 < 4096) = true := ht _ List.mem_cons_self
      rw [decide_eq_true_eq] at a1
      refine ⟨⟨i + 1, ?_, by omega⟩, ?_⟩
      · show v.i 100 + 1 = _; omega
      · show ((4096 : Int) - (v.i 100 + 1)).toNat < ((4096 : Int) - v.i 100).toNat; omega
    · simp only [spK, List.getElem?_cons_zero, List.getElem?_cons_succ, Option.some.injEq] at hw; subst hw; cases hkd
    · simp only [spK, List.getElem?_cons_zero, List.getElem?_cons_succ, Option.some.injEq] at hw; subst hw; cases hkd
    · simp [spK] at hw
  dead := fun j w hw hkd ρ v hb _ hs ⟨i, h1, h2⟩ ht => by
    rcases j with _ | _ | _ | j
    · simp only [spK, List.getElem?_cons_zero, Option.some.injEq] at hw; subst hw; cases hkd
    · simp only [spK, List.getElem?_cons_zero, List.getElem?_cons_succ, Option.some.injEq] at hw
      subst hw
      have a1 : decide (v.i 100 < 4096) = true := ht _ List.mem_cons_self
      rw [decide_eq_true_eq] at a1
      have ha : v.a 0 = landRow (ρ.i y) := by rw [Sx.same_a (M := 100) (j := 0) hs (by omega)]; exact hrow ρ hb
      have hi : i < 4096 := by omega
      have a2 : Sx.phiB2 0 (v.a 0 (v.i 100 * 2).toNat) (v.a 0 (v.i 100 * 2 + 1).toNat) = false := ht _ (List.mem_cons_of_mem _ List.mem_cons_self)
      rw [ha, show (v.i 100 * 2).toNat = 2 * i from by omega, show (v.i 100 * 2 + 1).toNat = 2 * i + 1 from by omega, landRow_k hi, landRow_o1, may_k] at a2
      cases a2
    · simp only [spK, List.getElem?_cons_zero, List.getElem?_cons_succ, Option.some.injEq] at hw; subst hw; cases hkd
    · simp [spK] at hw
  out := fun j w hw hkd ρ v hb _ hs ⟨i, h1, h2⟩ ht => by
    rcases j with _ | _ | _ | j
    · simp only [spK, List.getElem?_cons_zero, Option.some.injEq] at hw; subst hw; cases hkd
    · simp only [spK, List.getElem?_cons_zero, List.getElem?_cons_succ, Option.some.injEq] at hw; subst hw; cases hkd
    · simp only [spK, List.getElem?_cons_zero, List.getElem?_cons_succ, Option.some.injEq] at hw
      subst hw
      have a1 : decide (v.i 100 < 4096) = false := ht _ List.mem_cons_self
      rw [decide_eq_false_iff_not] at a1
      refine ⟨by simp only [spK, Sx.selIx, Sx.E.T, if_true], ⟨fun q hq => ?_, fun q hq => absurd hq (by simp), fun q hq => absurd hq (by simp)⟩⟩
      simp only [List.mem_cons, List.not_mem_nil, or_false] at hq
      subst hq
      show v.i 100 = 4096; omega
    · simp [spK] at hw
  fin := fun ρ hb _ => by
    simp only [spK, Sx.FactsOk, Sx.E.T, if_true]
    exact holds_nil }⟩
theorem goodL {bs : Bds} {y : Nat} (hy : y < 100) (same : ∀ ρ v, Sx.SameB ⟨100, [], [], []⟩ v ρ → bs.hold ρ → bs.hold v) (hrow : ∀ ρ, bs.hold ρ → ρ.a 0 = landRow (ρ.i y)) (slot ex : Nat) : ∃ J μ, Sx.Good bs (spL slot ex) J μ := ⟨fun ρ v => ∃ i : Nat, v.i 100 = i ∧ i ≤ 4096, fun ρ v => ((4096 : Int) - v.i 100).toNat, {
  start := fun ρ hb _ => ⟨0, rfl, by omega⟩
  head := fun ρ v hb _ hs ⟨i, h1, h2⟩ => by
    refine ⟨holds_cons ?_ (holds_cons ?_ holds_nil), same ρ v hs hb⟩
    · show decide (v.i 100 < 0) = false; rw [decide_eq_false_iff_not]; omega
    · show decide ((4096 : Int) < v.i 100) = false; rw [decide_eq_false_iff_not]; omega
  next := fun j w hw hkd ρ v hb _ hs ⟨i, h1, h2⟩ ht => by
    rcases j with _ | _ | _ | j
    · simp only [spL, List.getElem?_cons_zero, Option.some.injEq] at hw
      subst hw
      have a1 : decide (v.i 100 < 4096) = true := ht _ List.mem_cons_self
      rw [decide_eq_true_eq] at a1
      refine ⟨⟨i + 1, ?_, by omega⟩, ?_⟩
      · show v.i 100 + 1 = _; omega
      · show ((4096 : Int) - (v.i 100 + 1)).toNat < ((4096 : Int) - v.i 100).toNat; omega
    · simp only [spL, List.getElem?_cons_zero, List.getElem?_cons_succ, Option.some.injEq] at hw; subst hw; cases hkd
    · simp only [spL, List.getElem?_cons_zero, List.getElem?_cons_succ, Option.some.injEq] at hw; subst hw; cases hkd
    · simp [spL] at hw
  dead := fun j w hw hkd ρ v hb _ hs ⟨i, h1, h2⟩ ht => by
    rcases j with _ | _ | _ | j
    · simp only [spL, List.getElem?_cons_zero, Option.some.injEq] at hw; subst hw; cases hkd
    · simp only [spL, List.getElem?_cons_zero, List.getElem?_cons_succ, Option.some.injEq] at hw
      subst hw
      have a1 : decide (v.i 100 < 4096) = true := ht _ List.mem_cons_self
      rw [decide_eq_true_eq] at a1
      have ha : v.a 0 = landRow (ρ.i y) := by rw [Sx.same_a (M := 100) (j := 0) hs (by omega)]; exact hrow ρ hb
      have hi : i < 4096 := by omega
      have a2 : (decide ((15 : Int) < v.a 0 (v.i 100 * 2 + 8192).toNat) || decide ((15 : Int) < v.a 0 (v.i 100 * 2 + 8193).toNat)) = true := ht _ (List.mem_cons_of_mem _ List.mem_cons_self)
      rw [ha, show (v.i 100 * 2 + 8192).toNat = 2 * i + 8192 from by omega, show (v.i 100 * 2 + 8193).toNat = 2 * i + 8193 from by omega, landRow_l hi, landRow_o3] at a2
      have h15 := l_15 (ρ.i y * 16 + ((i / 256 : Nat) : Int))
      rw [Bool.or_eq_true, decide_eq_true_eq, decide_eq_true_eq] at a2
      omega
    · simp only [spL, List.getElem?_cons_zero, List.getElem?_cons_succ, Option.some.injEq] at hw; subst hw; cases hkd
    · simp [spL] at hw
  out := fun j w hw hkd ρ v hb _ hs ⟨i, h1, h2⟩ ht => by
    rcases j with _ | _ | _ | j
    · simp only [spL, List.getElem?_cons_zero, Option.some.injEq] at hw; subst hw; cases hkd
    · simp only [spL, List.getElem?_cons_zero, List.getElem?_cons_succ, Option.some.injEq] at hw; subst hw; cases hkd
    · simp only [spL, List.getElem?_cons_zero, List.getElem?_cons_succ, Option.some.injEq] at hw
      subst hw
      have a1 : decide (v.i 100 < 4096) = false := ht _ List.mem_cons_self
      rw [decide_eq_false_iff_not] at a1
      refine ⟨by simp only [spL, Sx.selIx, Sx.E.T, if_true], ⟨fun q hq => ?_, fun q hq => absurd hq (by simp), fun q hq => absurd hq (by simp)⟩⟩
      simp only [List.mem_cons, List.not_mem_nil, or_false] at hq
      subst hq
      show v.i 100 = 4096; omega
    · simp [spL] at hw
  fin := fun ρ hb _ => by
    simp only [spL, Sx.FactsOk, Sx.E.T, if_true]
    exact holds_nil }⟩
/-! ### Heights that are told: the row stands in any symbol -/
def spWc (ar : Nat) (kx lx : Sx.E) (slot b ex : Nat) : Sx.LSpec where
  M := 100
  tpl := [(slot, .c (.int .i64 v100))]
  tplB := [(b, .arr (.av 100) [.u8] (.lit 0) (.lit 16384) 49 1 [.nils])]
  ini := { i := [(100, .lit 0)], a := [(100, .bl false)] }
  hfs := head []
  d := [b]
  ways := [{ tests := [(lt4, true)], σ := { i := [(100, .bin .add v100 (.lit 1))], a := [(100, stepX kx lx)] } },
    { tests := [(lt4, false)], ex := .exit ex, kd := .out, σ := { i := [(100, v100)], a := [(100, .av 100)] }, fin := { i := [(100, .lit 4096)], a := [(100, .av ar)] } }]
theorem stepC {kx lx : Sx.E} {Y : Int} (hkx : ∀ (v : Val) (i : Nat), v.i 100 = i → i < 4096 → kx.I v = cellK (Y * 16 + ((i / 256 : Nat) : Int))) (hlx : ∀ (v : Val) (i : Nat), v.i 100 = i → i < 4096 → lx.I v = cellL (Y * 16 + ((i / 256 : Nat) : Int))) {v : Val} {i : Nat} (hi : v.i 100 = i) (hlt : i < 4096) (ha : v.a 100 = part Y i) : (stepX kx lx).A v = part Y (i + 1) := by
  funext m
  have e0 : (o0.I v).toNat = 2 * i := by show (v.i 100 * 2).toNat = _; omega
  have e1 : (o1.I v).toNat = 2 * i + 1 := by show (v.i 100 * 2 + 1).toNat = _; omega
  have e2 : (o2.I v).toNat = 2 * i + 8192 := by show (v.i 100 * 2 + 8192).toNat = _; omega
  have e3 : (o3.I v).toNat = 2 * i + 8193 := by show (v.i 100 * 2 + 8193).toNat = _; omega
  have hk := hkx v i hi hlt
  have hl := hlx v i hi hlt
  show (if m = (o3.I v).toNat then (0 : Int) else if m = (o2.I v).toNat then lx.I v else if m = (o1.I v).toNat then 0 else if m = (o0.I v).toNat then kx.I v else v.a 100 m) = _
  rw [e0, e1, e2, e3, ha, hk, hl]
  unfold part
  by_cases h3 : m = 2 * i + 8193
  · rw [if_pos h3, if_pos (by omega)]; unfold landRow; rw [if_pos (by omega)]
  · rw [if_neg h3]
    by_cases h2 : m = 2 * i + 8192
    · rw [if_pos h2, if_pos (by omega)]; unfold landRow
      rw [if_neg (by omega), if_neg (by omega), if_pos (by omega), show (m - 8192) / 512 = i / 256 from by omega]
    · rw [if_neg h2]
      by_cases h1 : m = 2 * i + 1
      · rw [if_pos h1, if_pos (by omega)]; unfold landRow; rw [if_pos (by omega)]
      · rw [if_neg h1]
        by_cases h0 : m = 2 * i
        · rw [if_pos h0, if_pos (by omega)]; unfold landRow
          rw [if_neg (by omega), if_pos (by omega), show m / 512 = i / 256 from by omega]
        · rw [if_neg h0]
          by_cases hc : m < 2 * i ∨ (8192 ≤ m ∧ m < 8192 + 2 * i)
          · rw [if_pos hc, if_pos (by omega)]
          · rw [if_neg hc, if_neg (by omega)]
theorem goodWc {bs : Bds} {Y : Int} {ar : Nat} (same : ∀ ρ v, Sx.SameB ⟨100, [], [], []⟩ v ρ → bs.hold ρ → bs.hold v) (hrow : ∀ ρ, bs.hold ρ → ρ.a ar = landRow Y) {kx lx : Sx.E} (hkx : ∀ (v : Val) (i : Nat), v.i 100 = i → i < 4096 → kx.I v = cellK (Y * 16 + ((i / 256 : Nat) : Int))) (hlx : ∀ (v : Val) (i : Nat), v.i 100 = i → i < 4096 → lx.I v = cellL (Y * 16 + ((i / 256 : Nat) : Int))) (slot b ex : Nat) : ∃ J μ, Sx.Good bs (spWc ar kx lx slot b ex) J μ := ⟨fun ρ v => ∃ i : Nat, v.i 100 = i ∧ i ≤ 4096 ∧ v.a 100 = part Y i, fun ρ v => ((4096 : Int) - v.i 100).toNat, {
  start := fun ρ hb _ => ⟨0, rfl, by omega, by rw [part_0]; rfl⟩
  head := fun ρ v hb _ hs ⟨i, h1, h2, h3⟩ => by
    refine ⟨holds_cons ?_ (holds_cons ?_ holds_nil), same ρ v hs hb⟩
    · show decide (v.i 100 < 0) = false; rw [decide_eq_false_iff_not]; omega
    · show decide ((4096 : Int) < v.i 100) = false; rw [decide_eq_false_iff_not]; omega
  next := fun j w hw hkd ρ v hb _ hs ⟨i, h1, h2, h3⟩ ht => by
    rcases j with _ | _ | j
    · simp only [spWc, List.getElem?_cons_zero, Option.some.injEq] at hw
      subst hw
      have a1 : decide (v.i 100 < 4096) = true := ht _ List.mem_cons_self
      rw [decide_eq_true_eq] at a1
      refine ⟨⟨i + 1, ?_, by omega, ?_⟩, ?_⟩
      · show v.i 100 + 1 = _; omega
      · exact stepC hkx hlx h1 (by omega) h3
      · show ((4096 : Int) - (v.i 100 + 1)).toNat < ((4096 : Int) - v.i 100).toNat; omega
    · simp only [spWc, List.getElem?_cons_zero, List.getElem?_cons_succ, Option.some.injEq] at hw; subst hw; cases hkd
    · simp [spWc] at hw
  dead := fun j w hw hkd => by
    rcases j with _ | _ | j
    · simp only [spWc, List.getElem?_cons_zero, Option.some.injEq] at hw; subst hw; cases hkd
    · simp only [spWc, List.getElem?_cons_zero, List.getElem?_cons_succ, Option.some.injEq] at hw; subst hw; cases hkd
    · simp [spWc] at hw
  out := fun j w hw hkd ρ v hb _ hs ⟨i, h1, h2, h3⟩ ht => by
    rcases j with _ | _ | j
    · simp only [spWc, List.getElem?_cons_zero, Option.some.injEq] at hw; subst hw; cases hkd
    · simp only [spWc, List.getElem?_cons_zero, List.getElem?_cons_succ, Option.some.injEq] at hw
      subst hw
      have a1 : decide (v.i 100 < 4096) = false := ht _ List.mem_cons_self
      rw [decide_eq_false_iff_not] at a1
      have hi : i = 4096 := by omega
      refine ⟨by simp only [spWc, Sx.selIx, Sx.E.T, if_true], ⟨fun q hq => ?_, fun q hq => absurd hq (by simp), fun q hq => ?_⟩⟩
      · simp only [List.mem_cons, List.not_mem_nil, or_false] at hq
        subst hq
        show v.i 100 = 4096; omega
      · simp only [List.mem_cons, List.not_mem_nil, or_false] at hq
        subst hq
        show v.a 100 = ρ.a ar
        rw [h3, hi, part_all]; exact (hrow ρ hb).symm
    · simp [spWc] at hw
  fin := fun ρ hb _ => by
    simp only [spWc, Sx.FactsOk, Sx.E.T, if_true]
    exact holds_nil }⟩
/-- In the air: no cell; the sky's light. -/
theorem goodAir {bs : Bds} {Y : Int} {ar : Nat} (hY : 0 < Y) (same : ∀ ρ v, Sx.SameB ⟨100, [], [], []⟩ v ρ → bs.hold ρ → bs.hold v) (hrow : ∀ ρ, bs.hold ρ → ρ.a ar = landRow Y) (slot b ex : Nat) : ∃ J μ, Sx.Good bs (spWc ar (.lit 0) (.lit 15) slot b ex) J μ :=
  goodWc same hrow (fun v i _ _ => by show (0 : Int) = _; unfold cellK; rw [if_neg (by rw [beq_iff_eq]; omega), if_pos (by rw [decide_eq_true_eq]; omega)]) (fun v i _ _ => by show (15 : Int) = _; unfold cellL; rw [if_pos (by rw [decide_eq_true_eq]; omega)]) slot b ex
/-- On the ground. -/
def y0 : Sx.E := .bin .div v100 (.lit 256)
def k0 : Sx.E := .ite (.bin .eq y0 (.lit 0)) (.lit 1) (.ite (.bin .lt (.lit 11) y0) (.lit 3) (.lit 2))
theorem goodGround {bs : Bds} {ar : Nat} (same : ∀ ρ v, Sx.SameB ⟨100, [], [], []⟩ v ρ → bs.hold ρ → bs.hold v) (hrow : ∀ ρ, bs.hold ρ → ρ.a ar = landRow 0) (slot b ex : Nat) : ∃ J μ, Sx.Good bs (spWc ar k0 (.lit 0) slot b ex) J μ :=
  goodWc same hrow (fun v i h hi => by
    have hy : y0.I v = ((i / 256 : Nat) : Int) := by show v.i 100 / 256 = _; rw [h]; omega
    show (if (y0.I v == 0) = true then (1 : Int) else if decide (11 < y0.I v) = true then 3 else 2) = _
    rw [hy]
    unfold cellK
    rw [show (0 : Int) * 16 + ((i / 256 : Nat) : Int) = ((i / 256 : Nat) : Int) from by omega]
    have h15 : ¬ (15 : Int) < ((i / 256 : Nat) : Int) := by omega
    rw [decide_eq_false h15]
    simp) (fun v i h hi => by
    show (0 : Int) = _
    unfold cellL
    rw [if_neg (by rw [decide_eq_true_eq]; omega)]) slot b ex
def movC (ar : Nat) : Sx.E := .un (.fb 1) (.bin .rd (.av ar) o0)
def spMc (ar : Nat) (n : Int) (si sn ex : Nat) : Sx.LSpec where
  M := 100
  tpl := [(si, .c (.int .i64 v100)), (sn, .c (.int .i64 v101))]
  ini := { i := [(100, .lit 0), (101, .lit 0)] }
  hfs := head [(.bin .lt v101 (.lit 0), false), (.bin .lt (.lit 4096) v101, false)]
  ways := [{ tests := [(lt4, true)], σ := { i := [(100, .bin .add v100 (.lit 1)), (101, .bin .add v101 (.ite (movC ar) (.lit 1) (.lit 0)))] } },
    { tests := [(lt4, false)], ex := .exit ex, kd := .out, σ := { i := [(100, v100), (101, v101)] }, fin := { i := [(100, .lit 4096), (101, .lit n)] } }]
theorem goodMc {bs : Bds} {ar : Nat} {n : Int} (har : ar < 100) (same : ∀ ρ v, Sx.SameB ⟨100, [], [], []⟩ v ρ → bs.hold ρ → bs.hold v) (hcnt : ∀ ρ, bs.hold ρ → ((cnt (ρ.a ar) 4096 : Nat) : Int) = n) (si sn ex : Nat) : ∃ J μ, Sx.Good bs (spMc ar n si sn ex) J μ := ⟨fun ρ v => ∃ i : Nat, v.i 100 = i ∧ i ≤ 4096 ∧ v.i 101 = (cnt (ρ.a ar) i : Nat), fun ρ v => ((4096 : Int) - v.i 100).toNat, {
  start := fun ρ hb _ => ⟨0, rfl, by omega, rfl⟩
  head := fun ρ v hb hp hs ⟨i, h1, h2, h3⟩ => by
    have hc := cnt_le (ρ.a ar) i
    refine ⟨holds_cons ?_ (holds_cons ?_ (holds_cons ?_ (holds_cons ?_ holds_nil))), same ρ v hs hb⟩
    · show decide (v.i 100 < 0) = false; rw [decide_eq_false_iff_not]; omega
    · show decide ((4096 : Int) < v.i 100) = false; rw [decide_eq_false_iff_not]; omega
    · show decide (v.i 101 < 0) = false; rw [decide_eq_false_iff_not]; omega
    · show decide ((4096 : Int) < v.i 101) = false; rw [decide_eq_false_iff_not]; omega
  next := fun j w hw hkd ρ v hb hp hs ⟨i, h1, h2, h3⟩ ht => by
    rcases j with _ | _ | j
    · simp only [spMc, List.getElem?_cons_zero, Option.some.injEq] at hw
      subst hw
      have a1 : decide (v.i 100 < 4096) = true := ht _ List.mem_cons_self
      rw [decide_eq_true_eq] at a1
      have hm : (movC ar).T v = Sx.phiB1 1 (ρ.a ar (2 * i)) := by
        show Sx.phiB1 1 (v.a ar (v.i 100 * 2).toNat) = _
        rw [Sx.same_a (M := 100) (j := ar) hs har, h1, show ((i : Int) * 2).toNat = 2 * i from by omega]
      refine ⟨⟨i + 1, ?_, by omega, ?_⟩, ?_⟩
      · show v.i 100 + 1 = _; omega
      · show v.i 101 + (if (movC ar).T v = true then (1 : Int) else 0) = _
        have hc : cnt (ρ.a ar) (i + 1) = cnt (ρ.a ar) i + (if Sx.phiB1 1 (ρ.a ar (2 * i)) = true then 1 else 0) := rfl
        rw [hm, h3, hc]
        split <;> omega
      · show ((4096 : Int) - (v.i 100 + 1)).toNat < ((4096 : Int) - v.i 100).toNat; omega
    · simp only [spMc, List.getElem?_cons_zero, List.getElem?_cons_succ, Option.some.injEq] at hw; subst hw; cases hkd
    · simp [spMc] at hw
  dead := fun j w hw hkd => by
    rcases j with _ | _ | j
    · simp only [spMc, List.getElem?_cons_zero, Option.some.injEq] at hw; subst hw; cases hkd
    · simp only [spMc, List.getElem?_cons_zero, List.getElem?_cons_succ, Option.some.injEq] at hw; subst hw; cases hkd
    · simp [spMc] at hw
  out := fun j w hw hkd ρ v hb hp hs ⟨i, h1, h2, h3⟩ ht => by
    rcases j with _ | _ | j
    · simp only [spMc, List.getElem?_cons_zero, Option.some.injEq] at hw; subst hw; cases hkd
    · simp only [spMc, List.getElem?_cons_zero, List.getElem?_cons_succ, Option.some.injEq] at hw
      subst hw
      have a1 : decide (v.i 100 < 4096) = false := ht _ List.mem_cons_self
      rw [decide_eq_false_iff_not] at a1
      have hi : i = 4096 := by omega
      refine ⟨by simp only [spMc, Sx.selIx, Sx.E.T, if_true], ⟨fun q hq => ?_, fun q hq => absurd hq (by simp), fun q hq => absurd hq (by simp)⟩⟩
      simp only [List.mem_cons, List.not_mem_nil, or_false] at hq
      rcases hq with rfl | rfl
      · show v.i 100 = 4096; omega
      · show v.i 101 = n
        rw [h3, hi]; exact hcnt ρ hb
    · simp [spMc] at hw
  fin := fun ρ hb _ => by
    simp only [spMc, Sx.FactsOk, Sx.E.T, if_true]
    exact holds_nil }⟩
theorem landRow_air {Y Y' : Int} (h : 0 < Y) (h' : 0 < Y') : landRow Y = landRow Y' := by
  funext m
  unfold landRow
  have hk : ∀ (y : Int) (n : Nat), 0 < y → cellK (y * 16 + n) = 0 := fun y n hy => by unfold cellK; rw [if_neg (by rw [beq_iff_eq]; omega), if_pos (by rw [decide_eq_true_eq]; omega)]
  have hl : ∀ (y : Int) (n : Nat), 0 < y → cellL (y * 16 + n) = 15 := fun y n hy => by unfold cellL; rw [if_pos (by rw [decide_eq_true_eq]; omega)]
  rw [hk Y _ h, hk Y' _ h', hl Y _ h, hl Y' _ h']
end Go.Proofs.Ytigblagodlfedaa.La
