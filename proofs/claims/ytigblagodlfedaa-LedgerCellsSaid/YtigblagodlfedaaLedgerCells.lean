/- 'LedgerCells' of chapter 29 holds as stated: for every input the law returns true, and the arguments read afterwards as before, for every world it is called in. -/
import Derived.Test.YtigblagodlfedaaRows
import Derived.Test.YtigblagodlfedaaSyh
import Derived.Test.YtigblagodlfedaaKc
import Derived.Test.YtigblagodlfedaaLa
import Derived.Test.YtigblagodlfedaaAw
import Derived.WalkKit
import Derived.ProofKit
import Derived.OpenShut
import Derived.ChangeOld
import Derived.Below
import Derived.SizedLaws
namespace Go.Proofs.Ytigblagodlfedaa.ledgerCells
open Go.ChangeShapes Go.WideShapes Go.ChangeAt Go.RowKit
open Sx (Env evF callF Val Bds Holds holds_cons holds_nil SlIn SFit PA SA)
set_option linter.unusedVariables false

theorem own : ownKnob Try.prog.godebug = none := by kernel_rfl
theorem laidOut : laidOutB Try.prog = true := by kernel_rfl

/-! ### The ledger's cells -/
def args : List SA := [.one .sl, .agg [.int .i64, .int .i64, .int .i64], .one (.int .i64), .agg [.int .u8, .int .u8]]
def ks : List IntKind := [.i64, .u8, .u8, .u8, .u8]
def M : Nat := 8796093022207
def eq0 (A : Nat → Int) (i : Nat) : Nat := (A (5 * i) % 4096).toNat * 2
/-- A chunk of air in which i edits are done. -/
def ed (A : Nat → Int) : Nat → Nat → Int
  | 0 => fun _ => 0
  | i + 1 => fun m => if m = eq0 A i + 8193 then A (5 * i + 4) else if m = eq0 A i + 8192 then A (5 * i + 3) else if m = eq0 A i + 1 then A (5 * i + 2) else if m = eq0 A i then A (5 * i + 1) else ed A i m
theorem posJ {A : Nat → Int} (h : Sx.PosIn ks A) (i o : Nat) (ho : 0 < o ∧ o < 5) : 0 ≤ A (5 * i + o) ∧ A (5 * i + o) ≤ 255 := by
  have := h (5 * i + o)
  rw [show (5 * i + o) % ks.length = o from by show (5 * i + o) % 5 = o; omega] at this
  have : o = 1 ∨ o = 2 ∨ o = 3 ∨ o = 4 := by omega
  rcases this with rfl | rfl | rfl | rfl <;> assumption
theorem ed_bd {A : Nat → Int} (h : Sx.PosIn ks A) : ∀ i m, 0 ≤ ed A i m ∧ ed A i m ≤ 255
  | 0, _ => ⟨Int.le_refl _, (by decide : (0 : Int) ≤ 255)⟩
  | i + 1, m => by
    unfold ed
    split
    · exact posJ h i 4 (by omega)
    · split
      · exact posJ h i 3 (by omega)
      · split
        · exact posJ h i 2 (by omega)
        · split
          · exact posJ h i 1 (by omega)
          · exact ed_bd h i m
/-- How many of a row's first cells are of a kind. -/
def kcnt (R : Nat → Int) (k : Nat) : Nat → Nat
  | 0 => 0
  | i + 1 => kcnt R k i + if R (2 * i) = (k : Int) then 1 else 0
theorem kcnt_le (R : Nat → Int) (k : Nat) : ∀ i, kcnt R k i ≤ i
  | 0 => Nat.le_refl _
  | i + 1 => by have := kcnt_le R k i; unfold kcnt; split <;> omega
theorem movable (k : Int) (h0 : 0 ≤ k) : Sx.phiB1 1 k = decide (2 ≤ k ∧ k ≤ 9) := by
  by_cases h : 15 ≤ k
  · rw [Sx.phiB1_past h, eq_comm, decide_eq_false_iff_not]; omega
  · have : k = 0 ∨ k = 1 ∨ k = 2 ∨ k = 3 ∨ k = 4 ∨ k = 5 ∨ k = 6 ∨ k = 7 ∨ k = 8 ∨ k = 9 ∨ k = 10 ∨ k = 11 ∨ k = 12 ∨ k = 13 ∨ k = 14 := by omega
    rcases this with rfl | rfl | rfl | rfl | rfl | rfl | rfl | rfl | rfl | rfl | rfl | rfl | rfl | rfl | rfl <;> rfl
/-- What is movable is of a kind from 2 to 9. -/
theorem cnt_kinds {R : Nat → Int} (h : ∀ m, 0 ≤ R m) : ∀ i, La.cnt R i = kcnt R 2 i + kcnt R 3 i + kcnt R 4 i + kcnt R 5 i + kcnt R 6 i + kcnt R 7 i + kcnt R 8 i + kcnt R 9 i
  | 0 => rfl
  | i + 1 => by
    have ih := cnt_kinds h i
    have h0 := h (2 * i)
    unfold La.cnt kcnt
    rw [movable _ h0, ih]
    simp only [decide_eq_true_eq]
    by_cases hc : 2 ≤ R (2 * i) ∧ R (2 * i) ≤ 9
    · rw [if_pos hc]
      have : R (2 * i) = 2 ∨ R (2 * i) = 3 ∨ R (2 * i) = 4 ∨ R (2 * i) = 5 ∨ R (2 * i) = 6 ∨ R (2 * i) = 7 ∨ R (2 * i) = 8 ∨ R (2 * i) = 9 := by omega
      rcases this with h | h | h | h | h | h | h | h <;> rw [h] <;> simp <;> omega
    · rw [if_neg hc, if_neg (by omega), if_neg (by omega), if_neg (by omega), if_neg (by omega), if_neg (by omega), if_neg (by omega), if_neg (by omega), if_neg (by omega)]
      omega
/-- One cell is changed. -/
def chg (R : Nat → Int) (p : Nat) (x y : Int) : Nat → Int := fun m => if m = 2 * p + 1 then y else if m = 2 * p then x else R m
def bit (x : Int) : Int := if Sx.phiB1 1 x = true then 1 else 0
theorem cnt_chg (R : Nat → Int) (p : Nat) (x y : Int) : ∀ i, ((La.cnt (chg R p x y) i : Nat) : Int) = (La.cnt R i : Nat) + if p < i then bit x - bit (R (2 * p)) else 0
  | 0 => by rw [if_neg (by omega)]; rfl
  | i + 1 => by
    have ih := cnt_chg R p x y i
    have e : ∀ Q : Nat → Int, ((La.cnt Q (i + 1) : Nat) : Int) = (La.cnt Q i : Nat) + bit (Q (2 * i)) := fun Q => by
      show ((La.cnt Q i + (if Sx.phiB1 1 (Q (2 * i)) = true then 1 else 0) : Nat) : Int) = _
      unfold bit
      split <;> omega
    rw [e, e, ih]
    by_cases hp : p = i
    · subst hp
      rw [if_neg (by omega), if_pos (by omega), show chg R p x y (2 * p) = x from by unfold chg; rw [if_neg (by omega), if_pos rfl]]
      omega
    · rw [show chg R p x y (2 * i) = R (2 * i) from by unfold chg; rw [if_neg (by omega), if_neg (by omega)]]
      by_cases h : p < i
      · rw [if_pos h, if_pos (by omega)]; omega
      · rw [if_neg h, if_neg (by omega)]; omega

/-! ### What the symbols stand for -/
def pro (zs : List Int) (A : Nat → Int) (off len cap : Nat) : Val := ⟨fun i => if i = 91 then off else if i = 1 then len else if i = 90 then cap else if i = 0 then 0 else if 10 ≤ i then kcnt (ed A len) (i - 10) 4096 else zs.getD (i - 2) 0, fun _ => false, fun j => if j = 0 then A else if j = 1 then ed A len else La.landRow (zs.getD 1 0), fun _ => ByteArray.empty⟩
def I64 : Int × Int := (-9223372036854775808, 9223372036854775807)
def b8 : Int × Int := (0, 255)
def bsL : Bds where
  v := [(0, 0), (0, 8796093022207), I64, I64, I64, I64, b8, b8, (0, 0), (0, 0), (0, 4096), (0, 4096), (0, 4096), (0, 4096), (0, 4096), (0, 4096), (0, 4096), (0, 4096), (0, 4096), (0, 4096), (0, 4096), (0, 4096), (0, 4096), (0, 4096), (0, 4096)]
  a := [I64, b8, b8]
  J := fun ρ => (ρ.a 1 = ed (ρ.a 0) (ρ.i 1).toNat ∧ ρ.a 2 = La.landRow (ρ.i 3)) ∧ (∀ j, j < 15 → ρ.i (10 + j) = (kcnt (ρ.a 1) j 4096 : Nat)) ∧ Sx.PosIn ks (ρ.a 0)
theorem kindsA : SA.kinds args = [.i64, .i64, .i64, .i64, .u8, .u8] := rfl
theorem pro_z (zs : List Int) (A : Nat → Int) (off len cap : Nat) (hl : zs.length = 6) (j : Nat) (hj : j < zs.length) : (pro zs A off len cap).i (2 + j) = zs.getD j 0 := by
  simp only [pro]
  rw [if_neg (by omega), if_neg (by omega), if_neg (by omega), if_neg (by omega), if_neg (by omega), show 2 + j - 2 = j from by omega]
theorem pro_k (zs : List Int) (A : Nat → Int) (off len cap : Nat) (j : Nat) (hj : j < 15) : (pro zs A off len cap).i (10 + j) = (kcnt (ed A len) j 4096 : Nat) := by
  simp only [pro]
  rw [if_neg (by omega), if_neg (by omega), if_neg (by omega), if_neg (by omega), if_pos (by omega), show 10 + j - 10 = j from by omega]
theorem holdL {zs : List Int} {A : Nat → Int} {off len cap : Nat} (hz : Sx.Fit (SA.kinds args) zs) (hl : len ≤ M) (hA : Sx.PosIn ks A) : bsL.hold (pro zs A off len cap) := by
  have hzl : zs.length = 6 := hz.length
  have hM : M = 8796093022207 := rfl
  refine ⟨fun i l u h => ?_, fun i l u h n => ?_, ⟨?_, ?_⟩, fun j hj => pro_k zs A off len cap j hj, hA⟩
  · have hlt : i < 25 := by
      refine Nat.lt_of_not_le fun hc => ?_
      rw [List.getElem?_eq_none (by show 25 ≤ i; exact hc)] at h; cases h
    have hj : i = 0 ∨ i = 1 ∨ i = 8 ∨ i = 9 ∨ (∃ j, j < 6 ∧ i = 2 + j) ∨ (∃ j, j < 15 ∧ i = 10 + j) := by
      by_cases h1 : 10 ≤ i
      · exact .inr (.inr (.inr (.inr (.inr ⟨i - 10, by omega, by omega⟩))))
      · by_cases h2 : 2 ≤ i ∧ i < 8
        · exact .inr (.inr (.inr (.inr (.inl ⟨i - 2, by omega, by omega⟩))))
        · omega
    rcases hj with rfl | rfl | rfl | rfl | ⟨j, hj, rfl⟩ | ⟨j, hj, rfl⟩
    · simp [bsL] at h; obtain ⟨rfl, rfl⟩ := h; exact ⟨Int.le_refl _, Int.le_refl _⟩
    · simp [bsL] at h; obtain ⟨rfl, rfl⟩ := h; show 0 ≤ (len : Int) ∧ (len : Int) ≤ _; omega
    · simp [bsL] at h; obtain ⟨rfl, rfl⟩ := h
      show 0 ≤ zs.getD 6 0 ∧ zs.getD 6 0 ≤ 0
      rw [List.getD_eq_getElem?_getD, List.getElem?_eq_none (by omega)]; decide
    · simp [bsL] at h; obtain ⟨rfl, rfl⟩ := h
      show 0 ≤ zs.getD 7 0 ∧ zs.getD 7 0 ≤ 0
      rw [List.getD_eq_getElem?_getD, List.getElem?_eq_none (by omega)]; decide
    · rw [pro_z zs A off len cap hzl j (by omega)]
      refine hz.get j l u ?_
      rw [kindsA]
      have : j = 0 ∨ j = 1 ∨ j = 2 ∨ j = 3 ∨ j = 4 ∨ j = 5 := by omega
      rcases this with rfl | rfl | rfl | rfl | rfl | rfl <;> exact h
    · rw [pro_k zs A off len cap j hj]
      have hk := kcnt_le (ed A len) j 4096
      have h : (l, u) = ((0, 4096) : Int × Int) := by
        have : j = 0 ∨ j = 1 ∨ j = 2 ∨ j = 3 ∨ j = 4 ∨ j = 5 ∨ j = 6 ∨ j = 7 ∨ j = 8 ∨ j = 9 ∨ j = 10 ∨ j = 11 ∨ j = 12 ∨ j = 13 ∨ j = 14 := by omega
        rcases this with rfl | rfl | rfl | rfl | rfl | rfl | rfl | rfl | rfl | rfl | rfl | rfl | rfl | rfl | rfl <;> exact (Option.some.inj h).symm
      simp only [Prod.mk.injEq] at h
      obtain ⟨rfl, rfl⟩ := h
      omega
  · rcases i with _ | _ | _ | i
    · simp [bsL, I64] at h; obtain ⟨rfl, rfl⟩ := h
      have := hA n
      have hr : n % ks.length = 0 ∨ n % ks.length = 1 ∨ n % ks.length = 2 ∨ n % ks.length = 3 ∨ n % ks.length = 4 := by show n % 5 = 0 ∨ n % 5 = 1 ∨ n % 5 = 2 ∨ n % 5 = 3 ∨ n % 5 = 4; omega
      show -9223372036854775808 ≤ A n ∧ A n ≤ 9223372036854775807
      rcases hr with h | h | h | h | h
      · rw [h] at this; exact this
      all_goals
        rw [h] at this
        have t : (0 : Int) ≤ A n ∧ A n ≤ 255 := this
        omega
    · simp [bsL, b8] at h; obtain ⟨rfl, rfl⟩ := h
      exact ed_bd hA len n
    · simp [bsL, b8] at h; obtain ⟨rfl, rfl⟩ := h
      exact La.landRow_bd _ n
    · simp [bsL] at h
  · show ed A len = ed A ((len : Nat) : Int).toNat
    rw [Int.toNat_natCast]
  · show La.landRow (zs.getD 1 0) = La.landRow ((pro zs A off len cap).i (2 + 1))
    rw [pro_z zs A off len cap hzl 1 (by omega)]
theorem sameL (ρ v : Val) (hs : Sx.SameB ⟨100, [], [], []⟩ v ρ) (h : bsL.hold ρ) : bsL.hold v := Sx.hold_same hs (by decide) (by decide) (fun hJ => by
  have h0 := Sx.same_a (M := 100) (j := 0) hs (by decide)
  have h1 := Sx.same_a (M := 100) (j := 1) hs (by decide)
  have h2 := Sx.same_a (M := 100) (j := 2) hs (by decide)
  refine ⟨⟨?_, ?_⟩, fun j hj => ?_, ?_⟩
  · rw [h1, h0, Sx.same_i (j := 1) hs (by omega)]; exact hJ.1.1
  · rw [h2, Sx.same_i (j := 3) hs (by omega)]; exact hJ.1.2
  · rw [h1, Sx.same_i hs (by omega)]; exact hJ.2.1 j hj
  · rw [h0]; exact hJ.2.2) h

/-! ### The edits -/
def w100 : Sx.E := .var 100
def w101 : Sx.E := .var 101
def nE : Sx.E := .var 1
def rdO (o : Nat) : Sx.E := match o with | 0 => .bin .rd (.av 0) (.bin .mul w100 (.lit 5)) | o => .bin .rd (.av 0) (.bin .add (.bin .mul w100 (.lit 5)) (.lit o))
def q0 : Sx.E := .bin .mul (.bin .mod (rdO 0) (.lit 4096)) (.lit 2)
def chunkB (x : Sx.E) : Sx.Blk := .arr x [.u8] (.lit 0) (.lit 16384) 49 1 [.nils]
def editX : Sx.E := .upd (.upd (.upd (.upd (.av 100) q0 (rdO 1)) (.bin .add q0 (.lit 1)) (rdO 2)) (.bin .add q0 (.lit 8192)) (rdO 3)) (.bin .add q0 (.lit 8193)) (rdO 4)
def hfO : List (Sx.E × Bool) := [(.bin .lt w100 (.lit 0), false), (.bin .lt nE w100, false), (.bin .lt (.lit 8796093022207) w100, false),
  (.bin .lt (rdO 1) (.lit 0), false), (.bin .lt (.lit 255) (rdO 1), false), (.bin .lt (rdO 2) (.lit 0), false), (.bin .lt (.lit 255) (rdO 2), false), (.bin .lt (rdO 3) (.lit 0), false), (.bin .lt (.lit 255) (rdO 3), false), (.bin .lt (rdO 4) (.lit 0), false), (.bin .lt (.lit 255) (rdO 4), false)]
def ltn : Sx.E := .bin .lt w100 nE
def spO (slot b ex : Nat) : Sx.LSpec where
  M := 100
  tpl := [(slot, .c (.int .i64 w100))]
  tplB := [(b, chunkB (.av 100))]
  ini := { i := [(100, .lit 0)], a := [(100, .bl false)] }
  hfs := hfO
  d := [b]
  ways := [{ tests := [(ltn, true)], σ := { i := [(100, .bin .add w100 (.lit 1))], a := [(100, editX)] } },
    { tests := [(ltn, false)], ex := .exit ex, kd := .out, σ := { i := [(100, w100)], a := [(100, .av 100)] }, fin := { i := [(100, nE)], a := [(100, .av 1)] } }]
theorem rd_I {ρ v : Val} (hs : Sx.SameB ⟨100, [], [], []⟩ v ρ) {i : Nat} (h : v.i 100 = i) (o : Nat) : (rdO o).I v = ρ.a 0 (5 * i + o) := by
  have ha := Sx.same_a (M := 100) (j := 0) hs (by decide)
  cases o with
  | zero => show v.a 0 (v.i 100 * 5).toNat = _; rw [ha, h, show ((i : Int) * 5).toNat = 5 * i + 0 from by omega]
  | succ o => show v.a 0 (v.i 100 * 5 + ((o + 1 : Nat) : Int)).toNat = _; rw [ha, h, show ((i : Int) * 5 + ((o + 1 : Nat) : Int)).toNat = 5 * i + (o + 1) from by omega]
theorem ltn_T (v : Val) : ltn.T v = decide (v.i 100 < v.i 1) := rfl
theorem stepO {ρ v : Val} (hs : Sx.SameB ⟨100, [], [], []⟩ v ρ) {i : Nat} (h : v.i 100 = i) (ha : v.a 100 = ed (ρ.a 0) i) : editX.A v = ed (ρ.a 0) (i + 1) := by
  funext m
  have r0 := rd_I hs h 0
  have e0 : (q0.I v).toNat = eq0 (ρ.a 0) i := by
    show ((rdO 0).I v % 4096 * 2).toNat = _
    rw [r0]; unfold eq0
    show (ρ.a 0 (5 * i + 0) % 4096 * 2).toNat = (ρ.a 0 (5 * i) % 4096).toNat * 2
    rw [Nat.add_zero]; omega
  have p0 : 0 ≤ q0.I v := by show 0 ≤ (rdO 0).I v % 4096 * 2; omega
  have e1 : (q0.I v + 1).toNat = eq0 (ρ.a 0) i + 1 := by omega
  have e2 : (q0.I v + 8192).toNat = eq0 (ρ.a 0) i + 8192 := by omega
  have e3 : (q0.I v + 8193).toNat = eq0 (ρ.a 0) i + 8193 := by omega
  show (if m = (q0.I v + 8193).toNat then (rdO 4).I v else if m = (q0.I v + 8192).toNat then (rdO 3).I v else if m = (q0.I v + 1).toNat then (rdO 2).I v else if m = (q0.I v).toNat then (rdO 1).I v else v.a 100 m) = _
  rw [e0, e1, e2, e3, ha, rd_I hs h 1, rd_I hs h 2, rd_I hs h 3, rd_I hs h 4]
  rfl
theorem goodO (slot b ex : Nat) : ∃ J μ, Sx.Good bsL (spO slot b ex) J μ := ⟨fun ρ v => ∃ i : Nat, v.i 100 = i ∧ (i : Int) ≤ ρ.i 1 ∧ v.a 100 = ed (ρ.a 0) i, fun ρ v => (ρ.i 1 - v.i 100).toNat, {
  start := fun ρ hb _ => ⟨0, rfl, (hb.1 1 0 8796093022207 rfl).1, rfl⟩
  head := fun ρ v hb _ hs ⟨i, h1, h2, h3⟩ => by
    have hl := hb.1 1 0 8796093022207 rfl
    have hn : v.i 1 = ρ.i 1 := Sx.same_i (M := 100) (j := 1) hs (by omega)
    have p1 := posJ hb.2.2.2.2 i 1 (by omega)
    have p2 := posJ hb.2.2.2.2 i 2 (by omega)
    have p3 := posJ hb.2.2.2.2 i 3 (by omega)
    have p4 := posJ hb.2.2.2.2 i 4 (by omega)
    rw [← rd_I hs h1] at p1 p2 p3 p4
    refine ⟨holds_cons (decide_eq_false ?_) (holds_cons (decide_eq_false ?_) (holds_cons (decide_eq_false ?_) (holds_cons (decide_eq_false ?_) (holds_cons (decide_eq_false ?_) (holds_cons (decide_eq_false ?_) (holds_cons (decide_eq_false ?_) (holds_cons (decide_eq_false ?_) (holds_cons (decide_eq_false ?_) (holds_cons (decide_eq_false ?_) (holds_cons (decide_eq_false ?_) holds_nil)))))))))), sameL ρ v hs hb⟩
    · show ¬ v.i 100 < 0; omega
    · show ¬ v.i 1 < v.i 100; omega
    · show ¬ (8796093022207 : Int) < v.i 100; omega
    · show ¬ (rdO 1).I v < 0; omega
    · show ¬ (255 : Int) < (rdO 1).I v; omega
    · show ¬ (rdO 2).I v < 0; omega
    · show ¬ (255 : Int) < (rdO 2).I v; omega
    · show ¬ (rdO 3).I v < 0; omega
    · show ¬ (255 : Int) < (rdO 3).I v; omega
    · show ¬ (rdO 4).I v < 0; omega
    · show ¬ (255 : Int) < (rdO 4).I v; omega
  next := fun j w hw hkd ρ v hb _ hs ⟨i, h1, h2, h3⟩ ht => by
    rcases j with _ | _ | j
    · simp only [spO, List.getElem?_cons_zero, Option.some.injEq] at hw
      subst hw
      have a1 : ltn.T v = true := ht _ List.mem_cons_self
      have hn : v.i 1 = ρ.i 1 := Sx.same_i (M := 100) (j := 1) hs (by omega)
      rw [ltn_T, decide_eq_true_eq] at a1
      refine ⟨⟨i + 1, ?_, by omega, ?_⟩, ?_⟩
      · show v.i 100 + 1 = _; omega
      · exact stepO hs h1 h3
      · show (ρ.i 1 - (v.i 100 + 1)).toNat < (ρ.i 1 - v.i 100).toNat; omega
    · simp only [spO, List.getElem?_cons_zero, List.getElem?_cons_succ, Option.some.injEq] at hw; subst hw; cases hkd
    · simp [spO] at hw
  dead := fun j w hw hkd => by
    rcases j with _ | _ | j
    · simp only [spO, List.getElem?_cons_zero, Option.some.injEq] at hw; subst hw; cases hkd
    · simp only [spO, List.getElem?_cons_zero, List.getElem?_cons_succ, Option.some.injEq] at hw; subst hw; cases hkd
    · simp [spO] at hw
  out := fun j w hw hkd ρ v hb _ hs ⟨i, h1, h2, h3⟩ ht => by
    rcases j with _ | _ | j
    · simp only [spO, List.getElem?_cons_zero, Option.some.injEq] at hw; subst hw; cases hkd
    · simp only [spO, List.getElem?_cons_zero, List.getElem?_cons_succ, Option.some.injEq] at hw
      subst hw
      have a1 : ltn.T v = false := ht _ List.mem_cons_self
      have hn : v.i 1 = ρ.i 1 := Sx.same_i (M := 100) (j := 1) hs (by omega)
      rw [ltn_T, decide_eq_false_iff_not] at a1
      have hi : i = (ρ.i 1).toNat := by omega
      refine ⟨by simp only [spO, Sx.selIx, Sx.E.T, if_true], ⟨fun q hq => ?_, fun q hq => absurd hq (by simp), fun q hq => ?_⟩⟩
      · simp only [List.mem_cons, List.not_mem_nil, or_false] at hq
        subst hq
        show v.i 100 = ρ.i 1; omega
      · simp only [List.mem_cons, List.not_mem_nil, or_false] at hq
        subst hq
        show v.a 100 = ρ.a 1
        rw [h3, hi]; exact hb.2.2.1.1.symm
    · simp [spO] at hw
  fin := fun ρ hb _ => by
    simp only [spO, Sx.FactsOk, Sx.E.T, if_true]
    exact holds_nil }⟩
/-- No edits at all. -/
def spO0 (slot b ex : Nat) : Sx.LSpec where
  M := 100
  tpl := [(slot, .c (.int .i64 w100))]
  tplB := [(b, chunkB (.av 100))]
  ini := { i := [(100, .lit 0)], a := [(100, .bl false)] }
  pre := [(.bin .lt (.lit 0) nE, false)]
  hfs := [(.bin .eq w100 (.lit 0), true)]
  d := [b]
  ways := [{ tests := [(.bin .eq w100 (.lit 0), true)], ex := .exit ex, kd := .out, σ := { i := [(100, w100)], a := [(100, .av 100)] }, fin := { i := [(100, .lit 0)], a := [(100, .av 1)] } }]
theorem goodO0 (slot b ex : Nat) : ∃ J μ, Sx.Good bsL (spO0 slot b ex) J μ := ⟨fun ρ v => v.i 100 = 0 ∧ v.a 100 = fun _ => 0, fun ρ v => 0, {
  start := fun ρ hb _ => ⟨rfl, rfl⟩
  head := fun ρ v hb _ hs ⟨h1, h2⟩ => ⟨holds_cons (by show (v.i 100 == 0) = true; rw [h1]; rfl) holds_nil, sameL ρ v hs hb⟩
  next := fun j w hw hkd => by
    rcases j with _ | j
    · simp only [spO0, List.getElem?_cons_zero, Option.some.injEq] at hw; subst hw; cases hkd
    · simp [spO0] at hw
  dead := fun j w hw hkd => by
    rcases j with _ | j
    · simp only [spO0, List.getElem?_cons_zero, Option.some.injEq] at hw; subst hw; cases hkd
    · simp [spO0] at hw
  out := fun j w hw hkd ρ v hb hp hs ⟨h1, h2⟩ ht => by
    rcases j with _ | j
    · simp only [spO0, List.getElem?_cons_zero, Option.some.injEq] at hw
      subst hw
      have a1 : decide (0 < ρ.i 1) = false := hp _ List.mem_cons_self
      rw [decide_eq_false_iff_not] at a1
      refine ⟨by simp only [spO0, Sx.selIx, Sx.E.T, if_true], ⟨fun q hq => ?_, fun q hq => absurd hq (by simp), fun q hq => ?_⟩⟩
      · simp only [List.mem_cons, List.not_mem_nil, or_false] at hq
        subst hq
        exact h1
      · simp only [List.mem_cons, List.not_mem_nil, or_false] at hq
        subst hq
        show v.a 100 = ρ.a 1
        rw [h2, hb.2.2.1.1, show (ρ.i 1).toNat = 0 from by omega]
        rfl
    · simp [spO0] at hw
  fin := fun ρ hb _ => by
    simp only [spO0, Sx.FactsOk, Sx.E.T, if_true]
    exact holds_nil }⟩

/-! ### The land -/
def yE : Sx.E := .bin .add (.bin .mul (.var 3) (.lit 16)) (.bin .div w100 (.lit 256))
def kE : Sx.E := .ite (.bin .eq yE (.lit 0)) (.lit 1) (.ite (.bin .lt (.lit 15) yE) (.lit 0) (.ite (.bin .lt (.lit 11) yE) (.lit 3) (.lit 2)))
def lE : Sx.E := .ite (.bin .lt (.lit 15) yE) (.lit 15) (.lit 0)
def lt4 : Sx.E := .bin .lt w100 (.lit 4096)
def hd4 : List (Sx.E × Bool) := [(.bin .lt w100 (.lit 0), false), (.bin .lt (.lit 4096) w100, false)]
def spC (slot b ex : Nat) : Sx.LSpec where
  M := 100
  tpl := [(slot, .c (.int .i64 w100))]
  tplB := [(b, chunkB (.av 100))]
  ini := { i := [(100, .lit 0)], a := [(100, .bl false)] }
  hfs := hd4
  d := [b]
  ways := [{ tests := [(lt4, true)], σ := { i := [(100, .bin .add w100 (.lit 1))], a := [(100, La.stepX kE lE)] } },
    { tests := [(lt4, false)], ex := .exit ex, kd := .out, σ := { i := [(100, w100)], a := [(100, .av 100)] }, fin := { i := [(100, .lit 4096)], a := [(100, .av 2)] } }]
theorem goodC (slot b ex : Nat) : ∃ J μ, Sx.Good bsL (spC slot b ex) J μ := ⟨fun ρ v => ∃ i : Nat, v.i 100 = i ∧ i ≤ 4096 ∧ v.a 100 = La.part (ρ.i 3) i, fun ρ v => ((4096 : Int) - v.i 100).toNat, {
  start := fun ρ hb _ => ⟨0, rfl, by omega, by rw [La.part_0]; rfl⟩
  head := fun ρ v hb _ hs ⟨i, h1, h2, h3⟩ => by
    refine ⟨holds_cons ?_ (holds_cons ?_ holds_nil), sameL ρ v hs hb⟩
    · show decide (v.i 100 < 0) = false; rw [decide_eq_false_iff_not]; omega
    · show decide ((4096 : Int) < v.i 100) = false; rw [decide_eq_false_iff_not]; omega
  next := fun j w hw hkd ρ v hb _ hs ⟨i, h1, h2, h3⟩ ht => by
    rcases j with _ | _ | j
    · simp only [spC, List.getElem?_cons_zero, Option.some.injEq] at hw
      subst hw
      have a1 : decide (v.i 100 < 4096) = true := ht _ List.mem_cons_self
      rw [decide_eq_true_eq] at a1
      refine ⟨⟨i + 1, ?_, by omega, ?_⟩, ?_⟩
      · show v.i 100 + 1 = _; omega
      · exact La.step (y := 3) (fun _ => rfl) (fun _ => rfl) h1 (by omega) (Sx.same_i (M := 100) hs (by omega)) h3
      · show ((4096 : Int) - (v.i 100 + 1)).toNat < ((4096 : Int) - v.i 100).toNat; omega
    · simp only [spC, List.getElem?_cons_zero, List.getElem?_cons_succ, Option.some.injEq] at hw; subst hw; cases hkd
    · simp [spC] at hw
  dead := fun j w hw hkd => by
    rcases j with _ | _ | j
    · simp only [spC, List.getElem?_cons_zero, Option.some.injEq] at hw; subst hw; cases hkd
    · simp only [spC, List.getElem?_cons_zero, List.getElem?_cons_succ, Option.some.injEq] at hw; subst hw; cases hkd
    · simp [spC] at hw
  out := fun j w hw hkd ρ v hb _ hs ⟨i, h1, h2, h3⟩ ht => by
    rcases j with _ | _ | j
    · simp only [spC, List.getElem?_cons_zero, Option.some.injEq] at hw; subst hw; cases hkd
    · simp only [spC, List.getElem?_cons_zero, List.getElem?_cons_succ, Option.some.injEq] at hw
      subst hw
      have a1 : decide (v.i 100 < 4096) = false := ht _ List.mem_cons_self
      rw [decide_eq_false_iff_not] at a1
      have hi : i = 4096 := by omega
      refine ⟨by simp only [spC, Sx.selIx, Sx.E.T, if_true], ⟨fun q hq => ?_, fun q hq => absurd hq (by simp), fun q hq => ?_⟩⟩
      · simp only [List.mem_cons, List.not_mem_nil, or_false] at hq
        subst hq
        show v.i 100 = 4096; omega
      · simp only [List.mem_cons, List.not_mem_nil, or_false] at hq
        subst hq
        show v.a 100 = ρ.a 2
        rw [h3, hi, La.part_all]; exact hb.2.2.1.2.symm
    · simp [spC] at hw
  fin := fun ρ hb _ => by
    simp only [spC, Sx.FactsOk, Sx.E.T, if_true]
    exact holds_nil }⟩

/-! ### How many are movable -/
def o0 : Sx.E := .bin .mul w100 (.lit 2)
def spM (x fin : Sx.E) (pre : List (Sx.E × Bool)) (si sn ex : Nat) : Sx.LSpec where
  M := 100
  tpl := [(si, .c (.int .i64 w100)), (sn, .c (.int .i64 w101))]
  ini := { i := [(100, .lit 0), (101, .lit 0)] }
  pre := pre
  hfs := [(.bin .lt w100 (.lit 0), false), (.bin .lt (.lit 4096) w100, false), (.bin .lt w101 (.lit 0), false), (.bin .lt (.lit 4096) w101, false)]
  ways := [{ tests := [(lt4, true)], σ := { i := [(100, .bin .add w100 (.lit 1)), (101, .bin .add w101 (.ite (.un (.fb 1) (.bin .rd x o0)) (.lit 1) (.lit 0)))] } },
    { tests := [(lt4, false)], ex := .exit ex, kd := .out, σ := { i := [(100, w100), (101, w101)] }, fin := { i := [(100, .lit 4096), (101, fin)] } }]
theorem goodM {x fin : Sx.E} {pre : List (Sx.E × Bool)} (R : Val → Nat → Int) (hx : ∀ ρ v, Sx.SameB ⟨100, [], [], []⟩ v ρ → x.A v = R ρ) (hf : ∀ ρ, bsL.hold ρ → Holds pre ρ → fin.I ρ = (La.cnt (R ρ) 4096 : Nat)) (si sn ex : Nat) : ∃ J μ, Sx.Good bsL (spM x fin pre si sn ex) J μ := ⟨fun ρ v => ∃ i : Nat, v.i 100 = i ∧ i ≤ 4096 ∧ v.i 101 = (La.cnt (R ρ) i : Nat), fun ρ v => ((4096 : Int) - v.i 100).toNat, {
  start := fun ρ hb _ => ⟨0, rfl, by omega, rfl⟩
  head := fun ρ v hb _ hs ⟨i, h1, h2, h3⟩ => by
    have hc := La.cnt_le (R ρ) i
    refine ⟨holds_cons (decide_eq_false ?_) (holds_cons (decide_eq_false ?_) (holds_cons (decide_eq_false ?_) (holds_cons (decide_eq_false ?_) holds_nil))), sameL ρ v hs hb⟩
    · show ¬ v.i 100 < 0; omega
    · show ¬ (4096 : Int) < v.i 100; omega
    · show ¬ v.i 101 < 0; omega
    · show ¬ (4096 : Int) < v.i 101; omega
  next := fun j w hw hkd ρ v hb _ hs ⟨i, h1, h2, h3⟩ ht => by
    rcases j with _ | _ | j
    · simp only [spM, List.getElem?_cons_zero, Option.some.injEq] at hw
      subst hw
      have a1 : decide (v.i 100 < 4096) = true := ht _ List.mem_cons_self
      rw [decide_eq_true_eq] at a1
      have hm : (Sx.E.un (.fb 1) (.bin .rd x o0)).T v = Sx.phiB1 1 (R ρ (2 * i)) := by
        show Sx.phiB1 1 (x.A v (v.i 100 * 2).toNat) = _
        rw [hx ρ v hs, h1, show ((i : Int) * 2).toNat = 2 * i from by omega]
      refine ⟨⟨i + 1, ?_, by omega, ?_⟩, ?_⟩
      · show v.i 100 + 1 = _; omega
      · show v.i 101 + (if (Sx.E.un (.fb 1) (.bin .rd x o0)).T v = true then (1 : Int) else 0) = _
        have hc : La.cnt (R ρ) (i + 1) = La.cnt (R ρ) i + (if Sx.phiB1 1 (R ρ (2 * i)) = true then 1 else 0) := rfl
        rw [hm, h3, hc]
        split <;> omega
      · show ((4096 : Int) - (v.i 100 + 1)).toNat < ((4096 : Int) - v.i 100).toNat; omega
    · simp only [spM, List.getElem?_cons_zero, List.getElem?_cons_succ, Option.some.injEq] at hw; subst hw; cases hkd
    · simp [spM] at hw
  dead := fun j w hw hkd => by
    rcases j with _ | _ | j
    · simp only [spM, List.getElem?_cons_zero, Option.some.injEq] at hw; subst hw; cases hkd
    · simp only [spM, List.getElem?_cons_zero, List.getElem?_cons_succ, Option.some.injEq] at hw; subst hw; cases hkd
    · simp [spM] at hw
  out := fun j w hw hkd ρ v hb hp hs ⟨i, h1, h2, h3⟩ ht => by
    rcases j with _ | _ | j
    · simp only [spM, List.getElem?_cons_zero, Option.some.injEq] at hw; subst hw; cases hkd
    · simp only [spM, List.getElem?_cons_zero, List.getElem?_cons_succ, Option.some.injEq] at hw
      subst hw
      have a1 : decide (v.i 100 < 4096) = false := ht _ List.mem_cons_self
      rw [decide_eq_false_iff_not] at a1
      have hi : i = 4096 := by omega
      refine ⟨by simp only [spM, Sx.selIx, Sx.E.T, if_true], ⟨fun q hq => ?_, fun q hq => absurd hq (by simp), fun q hq => absurd hq (by simp)⟩⟩
      simp only [List.mem_cons, List.not_mem_nil, or_false] at hq
      rcases hq with rfl | rfl
      · show v.i 100 = 4096; omega
      · show v.i 101 = fin.I ρ
        rw [h3, hi]; exact (hf ρ hb hp).symm
    · simp [spM] at hw
  fin := fun ρ hb _ => by
    simp only [spM, Sx.FactsOk, Sx.E.T, if_true]
    exact holds_nil }⟩
def kS : Sx.E := .bin .add (.bin .add (.bin .add (.bin .add (.bin .add (.bin .add (.bin .add (.var 12) (.var 13)) (.var 14)) (.var 15)) (.var 16)) (.var 17)) (.var 18)) (.var 19)
theorem kS_I {ρ : Val} (hb : bsL.hold ρ) : kS.I ρ = (La.cnt (ρ.a 1) 4096 : Nat) := by
  have hk := hb.2.2.2.1
  have h := cnt_kinds (R := ρ.a 1) (fun m => by rw [hb.2.2.1.1]; exact (ed_bd hb.2.2.2.2 _ m).1) 4096
  show ρ.i (10 + 2) + ρ.i (10 + 3) + ρ.i (10 + 4) + ρ.i (10 + 5) + ρ.i (10 + 6) + ρ.i (10 + 7) + ρ.i (10 + 8) + ρ.i (10 + 9) = _
  rw [hk 2 (by omega), hk 3 (by omega), hk 4 (by omega), hk 5 (by omega), hk 6 (by omega), hk 7 (by omega), hk 8 (by omega), hk 9 (by omega), h]
  omega
def spM1 (si sn ex : Nat) : Sx.LSpec := spM (.av 1) kS [] si sn ex
theorem goodM1 (si sn ex : Nat) : ∃ J μ, Sx.Good bsL (spM1 si sn ex) J μ := goodM (x := .av 1) (fun ρ => ρ.a 1) (fun ρ v hs => Sx.same_a (M := 100) (j := 1) hs (by decide)) (fun ρ hb _ => kS_I hb) si sn ex
def spM2 (si sn ex : Nat) : Sx.LSpec := spM (.av 2) (.ite (.bin .lt (.lit 0) (.var 3)) (.lit 0) (.lit 3840)) [(.bin .lt (.var 3) (.lit 0), false)] si sn ex
theorem goodM2 (si sn ex : Nat) : ∃ J μ, Sx.Good bsL (spM2 si sn ex) J μ := goodM (x := .av 2) (fun ρ => ρ.a 2) (fun ρ v hs => Sx.same_a (M := 100) (j := 2) hs (by decide)) (fun ρ hb hp => by
  have a1 : decide (ρ.i 3 < 0) = false := hp _ List.mem_cons_self
  rw [decide_eq_false_iff_not] at a1
  show (if decide (0 < ρ.i 3) = true then (0 : Int) else 3840) = _
  rw [hb.2.2.1.2, La.cnt_all (by omega)]
  simp only [decide_eq_true_eq]
  split <;> rfl) si sn ex
def mov (e : Sx.E) : Sx.E := .ite (.un (.fb 1) e) (.lit 1) (.lit 0)
def ix : Sx.E := .bin .mul (.bin .mod (.var 5) (.lit 4096)) (.lit 2)
def x2 : Sx.E := .upd (.upd (.av 1) ix (.var 6)) (.bin .add ix (.lit 1)) (.var 7)
def fin2 : Sx.E := .bin .sub (.bin .add kS (mov (.var 6))) (mov (.bin .rd (.av 1) ix))
def spM3 (si sn ex : Nat) : Sx.LSpec := spM x2 fin2 [] si sn ex
theorem goodM3 (si sn ex : Nat) : ∃ J μ, Sx.Good bsL (spM3 si sn ex) J μ := goodM (fun ρ => chg (ρ.a 1) (ρ.i 5 % 4096).toNat (ρ.i 6) (ρ.i 7)) (fun ρ v hs => by
  funext m
  show (if m = (v.i 5 % 4096 * 2 + 1).toNat then v.i 7 else if m = (v.i 5 % 4096 * 2).toNat then v.i 6 else v.a 1 m) = _
  rw [Sx.same_a (M := 100) (j := 1) hs (by decide), Sx.same_i (M := 100) (j := 5) hs (by decide), Sx.same_i (M := 100) (j := 6) hs (by decide), Sx.same_i (M := 100) (j := 7) hs (by decide),
    show (ρ.i 5 % 4096 * 2 + 1).toNat = 2 * (ρ.i 5 % 4096).toNat + 1 from by omega, show (ρ.i 5 % 4096 * 2).toNat = 2 * (ρ.i 5 % 4096).toNat from by omega]
  rfl) (fun ρ hb _ => by
  rw [cnt_chg, if_pos (by omega)]
  show kS.I ρ + bit (ρ.i 6) - bit (ρ.a 1 (ρ.i 5 % 4096 * 2).toNat) = _
  rw [kS_I hb, show (ρ.i 5 % 4096 * 2).toNat = 2 * (ρ.i 5 % 4096).toNat from by omega]
  omega) si sn ex

/-! ### How many there are of each kind -/
def kd : Sx.E := .bin .rd (.av 1) o0
def lv (j : Nat) : Sx.E := .var (101 + j)
def row15 (e : Sx.E) (f : Nat → Sx.E) : List (Nat × Sx.E) := (100, e) :: (List.range 15).map fun j => (101 + j, f j)
def next : Sx.E := .bin .add w100 (.lit 1)
def setK (k : Nat) (j : Nat) : Sx.E := if j = k then .bin .add (lv j) (.lit 1) else lv j
def wayK (k : Nat) : Sx.Way := { tests := [(lt4, true), (.bin .eq kd (.lit k), true)], σ := { i := row15 next (setK k) } }
def wayO : Sx.Way := { tests := [(lt4, true), (.bin .lt kd (.lit 15), false)], σ := { i := row15 next (setK 15) } }
def wayX (ex : Nat) : Sx.Way := { tests := [(lt4, false)], ex := .exit ex, kd := .out, σ := { i := row15 w100 lv }, fin := { i := row15 (.lit 4096) fun j => .var (10 + j) } }
def spK (slot b ex : Nat) : Sx.LSpec where
  M := 100
  tpl := [(slot, .c (.int .i64 w100))]
  tplB := [(b, .cells ((List.range 15).map fun j => .int .i64 (lv j)) 39 0)]
  ini := { i := row15 (.lit 0) fun _ => .lit 0 }
  hfs := (.bin .lt w100 (.lit 0), false) :: (.bin .lt (.lit 4096) w100, false) :: ((List.range 15).map (fun j => (Sx.E.bin .lt (lv j) (.lit 0), false)) ++ (List.range 15).map (fun j => (Sx.E.bin .lt (.lit 4096) (lv j), false)))
  d := [b]
  ways := [wayK 0, wayK 1, wayK 2, wayK 3, wayK 4, wayK 5, wayK 6, wayK 7, wayK 8, wayK 9, wayK 10, wayK 11, wayK 12, wayK 13, wayK 14, wayO, wayX ex]
theorem upd15 (v : Val) (e : Sx.E) (f : Nat → Sx.E) (j : Nat) (hj : j < 15) : (v.upd { i := row15 e f }).i (101 + j) = (f j).I v := by
  have : j = 0 ∨ j = 1 ∨ j = 2 ∨ j = 3 ∨ j = 4 ∨ j = 5 ∨ j = 6 ∨ j = 7 ∨ j = 8 ∨ j = 9 ∨ j = 10 ∨ j = 11 ∨ j = 12 ∨ j = 13 ∨ j = 14 := by omega
  rcases this with rfl | rfl | rfl | rfl | rfl | rfl | rfl | rfl | rfl | rfl | rfl | rfl | rfl | rfl | rfl <;> rfl
structure AtK (ρ v : Val) (i : Nat) : Prop where
  e : v.i 100 = i
  le : i ≤ 4096
  z : ∀ j, j < 15 → v.i (101 + j) = (kcnt (ρ.a 1) j i : Nat)
theorem kd_I {ρ v : Val} (hs : Sx.SameB ⟨100, [], [], []⟩ v ρ) {i : Nat} (h : v.i 100 = i) : kd.I v = ρ.a 1 (2 * i) := by
  show v.a 1 (v.i 100 * 2).toNat = _
  rw [Sx.same_a (M := 100) (j := 1) hs (by decide), h, show ((i : Int) * 2).toNat = 2 * i from by omega]
theorem lt4_T (v : Val) : lt4.T v = decide (v.i 100 < 4096) := rfl
theorem wayK_next {ρ v : Val} (hs : Sx.SameB ⟨100, [], [], []⟩ v ρ) {i : Nat} (h : AtK ρ v i) (h4 : lt4.T v = true) (k : Nat) (hk : k < 15 ∧ ρ.a 1 (2 * i) = k ∨ k = 15 ∧ (∀ j, j < 15 → ρ.a 1 (2 * i) ≠ ((j : Nat) : Int))) : AtK ρ (v.upd { i := row15 next (setK k) }) (i + 1) := by
  rw [lt4_T, decide_eq_true_eq] at h4
  have he := h.e
  refine ⟨by show v.i 100 + 1 = _; omega, by omega, fun j hj => ?_⟩
  rw [upd15 v next _ j hj]
  have hz := h.z j hj
  show _ = ((kcnt (ρ.a 1) j i + (if ρ.a 1 (2 * i) = (j : Int) then 1 else 0) : Nat) : Int)
  unfold setK
  rcases hk with ⟨h1, h2⟩ | ⟨rfl, h2⟩
  · by_cases hj' : j = k
    · subst hj'
      rw [if_pos rfl, if_pos h2]
      show v.i (101 + j) + 1 = _
      omega
    · rw [if_neg hj', if_neg (by omega)]
      exact hz
  · rw [if_neg (by omega), if_neg (h2 j hj)]
    exact hz
theorem headK {ρ v : Val} {i : Nat} (h : AtK ρ v i) (slot b ex : Nat) : Holds (spK slot b ex).hfs v := by
  have he := h.e
  have hle := h.le
  have hz : ∀ j, j < 15 → 0 ≤ v.i (101 + j) ∧ v.i (101 + j) ≤ 4096 := fun j hj => by
    rw [h.z j hj]
    have := kcnt_le (ρ.a 1) j i
    omega
  refine holds_cons (decide_eq_false ?_) (holds_cons (decide_eq_false ?_) fun p hp => ?_)
  · show ¬ v.i 100 < 0; omega
  · show ¬ (4096 : Int) < v.i 100; omega
  · rcases List.mem_append.1 hp with hp | hp
    · obtain ⟨j, hj, rfl⟩ := List.mem_map.1 hp
      have := hz j (List.mem_range.1 hj)
      exact decide_eq_false (by show ¬ v.i (101 + j) < 0; omega)
    · obtain ⟨j, hj, rfl⟩ := List.mem_map.1 hp
      have := hz j (List.mem_range.1 hj)
      exact decide_eq_false (by show ¬ (4096 : Int) < v.i (101 + j); omega)
theorem outK {ρ v : Val} (hb : bsL.hold ρ) {i : Nat} (h : AtK ρ v i) (ht : lt4.T v = false) (ex : Nat) : Sx.OutEq v ρ (wayX ex).σ (wayX ex).fin := by
  rw [lt4_T, decide_eq_false_iff_not] at ht
  have he := h.e
  have hle := h.le
  have hi : i = 4096 := by omega
  refine ⟨fun q hq => ?_, fun q hq => absurd hq (by simp [wayX]), fun q hq => absurd hq (by simp [wayX])⟩
  simp only [wayX, row15, List.mem_cons] at hq
  rcases hq with rfl | hq
  · show v.i 100 = 4096; omega
  · obtain ⟨j, hj, rfl⟩ := List.mem_map.1 hq
    have hj := List.mem_range.1 hj
    show v.i (101 + j) = (ρ.upd { i := row15 (.lit 4096) fun j => .var (10 + j) }).i (101 + j)
    rw [upd15 ρ (.lit 4096) _ j hj, h.z j hj, hi]
    exact (hb.2.2.2.1 j hj).symm
theorem wayK_ok (ex k : Nat) (hk : k < 15) : (wayK k = wayX ex ∧ False) ∨ (wayK k).kd = .next ∧ ∃ k', (wayK k).σ = { i := row15 next (setK k') } ∧ ∀ ρ v i, Sx.SameB ⟨100, [], [], []⟩ v ρ → AtK ρ v i → Holds (wayK k).tests v → lt4.T v = true ∧ (k' < 15 ∧ ρ.a 1 (2 * i) = k' ∨ k' = 15 ∧ (∀ j, j < 15 → ρ.a 1 (2 * i) ≠ ((j : Nat) : Int))) :=
  .inr ⟨rfl, k, rfl, fun ρ v i hs h ht => ⟨ht _ List.mem_cons_self, .inl ⟨hk, by
    have : (kd.I v == (k : Int)) = true := ht _ (List.mem_cons_of_mem _ List.mem_cons_self)
    rw [kd_I hs h.e, beq_iff_eq] at this; exact this⟩⟩⟩
theorem wayO_ok (ex : Nat) : (wayO = wayX ex ∧ False) ∨ wayO.kd = .next ∧ ∃ k', wayO.σ = { i := row15 next (setK k') } ∧ ∀ ρ v i, Sx.SameB ⟨100, [], [], []⟩ v ρ → AtK ρ v i → Holds wayO.tests v → lt4.T v = true ∧ (k' < 15 ∧ ρ.a 1 (2 * i) = k' ∨ k' = 15 ∧ (∀ j, j < 15 → ρ.a 1 (2 * i) ≠ ((j : Nat) : Int))) :=
  .inr ⟨rfl, 15, rfl, fun ρ v i hs h ht => ⟨ht _ List.mem_cons_self, .inr ⟨rfl, fun j hj => by
    have : decide (kd.I v < 15) = false := ht _ (List.mem_cons_of_mem _ List.mem_cons_self)
    rw [kd_I hs h.e, decide_eq_false_iff_not] at this; omega⟩⟩⟩
theorem waysK (slot b ex j : Nat) (w : Sx.Way) (hw : (spK slot b ex).ways[j]? = some w) : (w = wayX ex ∧ j = 16) ∨ w.kd = .next ∧ ∃ k', w.σ = { i := row15 next (setK k') } ∧ ∀ ρ v i, Sx.SameB ⟨100, [], [], []⟩ v ρ → AtK ρ v i → Holds w.tests v → lt4.T v = true ∧ (k' < 15 ∧ ρ.a 1 (2 * i) = k' ∨ k' = 15 ∧ (∀ j, j < 15 → ρ.a 1 (2 * i) ≠ ((j : Nat) : Int))) := by
  have fx : ∀ {w : Sx.Way} {p : Prop}, (w = wayX ex ∧ False) ∨ p → (w = wayX ex ∧ j = 16) ∨ p := fun h => h.elim (fun h => h.2.elim) .inr
  have hlt : j < 17 := by
    refine Nat.lt_of_not_le fun hc => ?_
    rw [List.getElem?_eq_none (by show 17 ≤ j; exact hc)] at hw; cases hw
  have : j = 0 ∨ j = 1 ∨ j = 2 ∨ j = 3 ∨ j = 4 ∨ j = 5 ∨ j = 6 ∨ j = 7 ∨ j = 8 ∨ j = 9 ∨ j = 10 ∨ j = 11 ∨ j = 12 ∨ j = 13 ∨ j = 14 ∨ j = 15 ∨ j = 16 := by omega
  rcases this with rfl | rfl | rfl | rfl | rfl | rfl | rfl | rfl | rfl | rfl | rfl | rfl | rfl | rfl | rfl | rfl | rfl
  · obtain rfl := Option.some.inj hw; exact fx (wayK_ok ex 0 (by omega))
  · obtain rfl := Option.some.inj hw; exact fx (wayK_ok ex 1 (by omega))
  · obtain rfl := Option.some.inj hw; exact fx (wayK_ok ex 2 (by omega))
  · obtain rfl := Option.some.inj hw; exact fx (wayK_ok ex 3 (by omega))
  · obtain rfl := Option.some.inj hw; exact fx (wayK_ok ex 4 (by omega))
  · obtain rfl := Option.some.inj hw; exact fx (wayK_ok ex 5 (by omega))
  · obtain rfl := Option.some.inj hw; exact fx (wayK_ok ex 6 (by omega))
  · obtain rfl := Option.some.inj hw; exact fx (wayK_ok ex 7 (by omega))
  · obtain rfl := Option.some.inj hw; exact fx (wayK_ok ex 8 (by omega))
  · obtain rfl := Option.some.inj hw; exact fx (wayK_ok ex 9 (by omega))
  · obtain rfl := Option.some.inj hw; exact fx (wayK_ok ex 10 (by omega))
  · obtain rfl := Option.some.inj hw; exact fx (wayK_ok ex 11 (by omega))
  · obtain rfl := Option.some.inj hw; exact fx (wayK_ok ex 12 (by omega))
  · obtain rfl := Option.some.inj hw; exact fx (wayK_ok ex 13 (by omega))
  · obtain rfl := Option.some.inj hw; exact fx (wayK_ok ex 14 (by omega))
  · obtain rfl := Option.some.inj hw; exact fx (wayO_ok ex)
  · obtain rfl := Option.some.inj hw; exact .inl ⟨rfl, rfl⟩
theorem goodK (slot b ex : Nat) : ∃ J μ, Sx.Good bsL (spK slot b ex) J μ := ⟨fun ρ v => ∃ i : Nat, AtK ρ v i, fun ρ v => ((4096 : Int) - v.i 100).toNat, {
  start := fun ρ hb _ => ⟨0, rfl, by omega, fun j hj => by
    show (ρ.upd { i := row15 (.lit 0) fun _ => .lit 0 }).i (101 + j) = _
    rw [upd15 ρ _ _ j hj]; rfl⟩
  head := fun ρ v hb _ hs ⟨i, h⟩ => ⟨headK h slot b ex, sameL ρ v hs hb⟩
  next := fun j w hwj hkd ρ v hb _ hs ⟨i, h⟩ ht => by
    rcases waysK slot b ex j w hwj with ⟨rfl, _⟩ | ⟨_, k, hσ, hf⟩
    · cases hkd
    · obtain ⟨h1, h2⟩ := hf ρ v i hs h ht
      have h3 := wayK_next hs h h1 k h2
      rw [lt4_T, decide_eq_true_eq] at h1
      rw [hσ]
      refine ⟨⟨i + 1, h3⟩, ?_⟩
      show ((4096 : Int) - (v.i 100 + 1)).toNat < ((4096 : Int) - v.i 100).toNat
      omega
  dead := fun j w hwj hkd => by
    rcases waysK slot b ex j w hwj with ⟨rfl, _⟩ | ⟨h, _⟩
    · cases hkd
    · rw [h] at hkd; cases hkd
  out := fun j w hwj hkd ρ v hb _ hs ⟨i, h⟩ ht => by
    rcases waysK slot b ex j w hwj with ⟨rfl, rfl⟩ | ⟨hk, _⟩
    · exact ⟨rfl, outK hb h (ht _ List.mem_cons_self) ex⟩
    · rw [hk] at hkd; cases hkd
  fin := fun ρ hb _ => by
    show Sx.FactsOk ρ [wayK 0, wayK 1, wayK 2, wayK 3, wayK 4, wayK 5, wayK 6, wayK 7, wayK 8, wayK 9, wayK 10, wayK 11, wayK 12, wayK 13, wayK 14, wayO, wayX ex]
    simp only [wayK, wayO, wayX, Sx.FactsOk, Sx.E.T, if_true]; exact holds_nil }⟩

/-! ### The runs -/
noncomputable def loopsE1 : List (Nat × Code) := [(0, Sx.loopAt Try.f24 0), (1, Sx.loopAt Try.f30 0), (2, Sx.loopAt Try.f12 0), (3, Sx.loopAt Try.f14 0)]
noncomputable def tabE1 : Sx.Tab := [(0, (Sx.loopAt Try.f24 0, [{ gd := [(4, .c (.ptr 6 (.lit 0)))], sp := spC 11 6 0 }, { gd := [(4, .c (.ptr 7 (.lit 0)))], sp := spC 11 7 0 }, { gd := [(4, .c (.ptr 8 (.lit 0)))], sp := spC 11 8 0 }, { gd := [(4, .c (.ptr 9 (.lit 0)))], sp := spC 11 9 0 }, { gd := [(4, .c (.ptr 11 (.lit 0)))], sp := spC 11 11 0 }])), (1, (Sx.loopAt Try.f30 0, [{ gd := [(0, .c (.ptr 3 (.lit 0)))], sp := spM1 6 2 0, gb := [(3, chunkB (.av 1))] }, { gd := [(0, .c (.ptr 7 (.lit 0)))], sp := spM2 6 2 0, gb := [(7, chunkB (.av 2))] }, { gd := [(0, .c (.ptr 9 (.lit 0)))], sp := spM2 6 2 0, gb := [(9, chunkB (.av 2))] }, { gd := [(0, .c (.ptr 11 (.lit 0)))], sp := spM2 6 2 0, gb := [(11, chunkB (.av 2))] }, { gd := [(0, .c (.ptr 3 (.lit 0)))], sp := spM3 6 2 0, gb := [(3, chunkB x2)] }])), (2, (Sx.loopAt Try.f12 0, [{ gd := [(5, .c (.ptr 3 (.lit 0)))], sp := spO 6 3 0 }])), (3, (Sx.loopAt Try.f14 0, [{ gd := [(2, .c (.ptr 4 (.lit 0)))], sp := spK 12 4 0 }]))]
noncomputable def E1 : Env := { bs := bsL, sum := Sx.tabC (Aw.aT bsL), fns := [(4, Try.f4), (12, Sx.Func.marked Try.f12 [(0, 2)]), (13, Try.f13), (14, Sx.Func.marked Try.f14 [(0, 3)]), (16, Try.f16), (24, Sx.Func.marked Try.f24 [(0, 0)]), (30, Sx.Func.marked Try.f30 [(0, 1)]), (25, Try.f25), (9, Try.f9), (28, Try.f28), (36, Try.f36), (37, Try.f37), (38, Try.f38)], loops := Sx.runTab bsL tabE1, lk := Sx.lkOf loopsE1 }
theorem E1ok : E1.Ok Try.prog :=
  Sx.env_ok (Sx.forall_cons (Sx.fnOk_plain Try.func4 (by kernel_rfl) (by kernel_rfl)) (Sx.forall_cons (Sx.fnOk_marked Try.func12 (by kernel_rfl) (by kernel_rfl) (Sx.forall_cons rfl Sx.forall_nil)) (Sx.forall_cons (Sx.fnOk_plain Try.func13 (by kernel_rfl) (by kernel_rfl)) (Sx.forall_cons (Sx.fnOk_marked Try.func14 (by kernel_rfl) (by kernel_rfl) (Sx.forall_cons rfl Sx.forall_nil)) (Sx.forall_cons (Sx.fnOk_plain Try.func16 (by kernel_rfl) (by kernel_rfl)) (Sx.forall_cons (Sx.fnOk_marked Try.func24 (by kernel_rfl) (by kernel_rfl) (Sx.forall_cons rfl Sx.forall_nil)) (Sx.forall_cons (Sx.fnOk_marked Try.func30 (by kernel_rfl) (by kernel_rfl) (Sx.forall_cons rfl Sx.forall_nil)) (Sx.forall_cons (Sx.fnOk_plain Try.func25 (by kernel_rfl) (by kernel_rfl)) (Sx.forall_cons (Sx.fnOk_plain Try.func9 (by kernel_rfl) (by kernel_rfl)) (Sx.forall_cons (Sx.fnOk_plain Try.func28 (by kernel_rfl) (by kernel_rfl)) (Sx.forall_cons (Sx.fnOk_plain Try.func36 (by kernel_rfl) (by kernel_rfl)) (Sx.forall_cons (Sx.fnOk_plain Try.func37 (by kernel_rfl) (by kernel_rfl)) (Sx.forall_cons (Sx.fnOk_plain Try.func38 (by kernel_rfl) (by kernel_rfl)) Sx.forall_nil)))))))))))))
    (Sx.loopsOk_mem (l := loopsE1) (tab := tabE1) rfl rfl (Sx.forall_cons (Sx.mk_eq (by kernel_rfl) rfl) (Sx.forall_cons (Sx.mk_eq (by kernel_rfl) rfl) (Sx.forall_cons (Sx.mk_eq (by kernel_rfl) rfl) (Sx.forall_cons (Sx.mk_eq (by kernel_rfl) rfl) Sx.forall_nil)))) (Sx.forall_cons (Sx.forall_cons (goodC 11 6 0) (Sx.forall_cons (goodC 11 7 0) (Sx.forall_cons (goodC 11 8 0) (Sx.forall_cons (goodC 11 9 0) (Sx.forall_cons (goodC 11 11 0) Sx.forall_nil))))) (Sx.forall_cons (Sx.forall_cons (goodM1 6 2 0) (Sx.forall_cons (goodM2 6 2 0) (Sx.forall_cons (goodM2 6 2 0) (Sx.forall_cons (goodM2 6 2 0) (Sx.forall_cons (goodM3 6 2 0) Sx.forall_nil))))) (Sx.forall_cons (Sx.forall_cons (goodO 6 3 0) Sx.forall_nil) (Sx.forall_cons (Sx.forall_cons (goodK 12 4 0) Sx.forall_nil) Sx.forall_nil)))))

noncomputable def loopsE0 : List (Nat × Code) := [(0, Sx.loopAt Try.f24 0), (1, Sx.loopAt Try.f30 0), (2, Sx.loopAt Try.f12 0), (3, Sx.loopAt Try.f14 0)]
noncomputable def tabE0 : Sx.Tab := [(0, (Sx.loopAt Try.f24 0, [{ gd := [(4, .c (.ptr 5 (.lit 0)))], sp := spC 11 5 0 }, { gd := [(4, .c (.ptr 6 (.lit 0)))], sp := spC 11 6 0 }, { gd := [(4, .c (.ptr 7 (.lit 0)))], sp := spC 11 7 0 }, { gd := [(4, .c (.ptr 8 (.lit 0)))], sp := spC 11 8 0 }, { gd := [(4, .c (.ptr 9 (.lit 0)))], sp := spC 11 9 0 }, { gd := [(4, .c (.ptr 10 (.lit 0)))], sp := spC 11 10 0 }, { gd := [(4, .c (.ptr 11 (.lit 0)))], sp := spC 11 11 0 }])), (1, (Sx.loopAt Try.f30 0, [{ gd := [(0, .c (.ptr 2 (.lit 0)))], sp := spM1 6 2 0, gb := [(2, chunkB (.av 1))] }, { gd := [(0, .c (.ptr 3 (.lit 0)))], sp := spM1 6 2 0, gb := [(3, chunkB (.av 1))] }, { gd := [(0, .c (.ptr 6 (.lit 0)))], sp := spM2 6 2 0, gb := [(6, chunkB (.av 2))] }, { gd := [(0, .c (.ptr 7 (.lit 0)))], sp := spM2 6 2 0, gb := [(7, chunkB (.av 2))] }, { gd := [(0, .c (.ptr 8 (.lit 0)))], sp := spM2 6 2 0, gb := [(8, chunkB (.av 2))] }, { gd := [(0, .c (.ptr 9 (.lit 0)))], sp := spM2 6 2 0, gb := [(9, chunkB (.av 2))] }, { gd := [(0, .c (.ptr 10 (.lit 0)))], sp := spM2 6 2 0, gb := [(10, chunkB (.av 2))] }, { gd := [(0, .c (.ptr 11 (.lit 0)))], sp := spM2 6 2 0, gb := [(11, chunkB (.av 2))] }, { gd := [(0, .c (.ptr 2 (.lit 0)))], sp := spM3 6 2 0, gb := [(2, chunkB x2)] }, { gd := [(0, .c (.ptr 3 (.lit 0)))], sp := spM3 6 2 0, gb := [(3, chunkB x2)] }])), (2, (Sx.loopAt Try.f12 0, [{ gd := [(5, .c (.ptr 2 (.lit 0)))], sp := spO0 6 2 0 }, { gd := [(5, .c (.ptr 3 (.lit 0)))], sp := spO0 6 3 0 }])), (3, (Sx.loopAt Try.f14 0, [{ gd := [(2, .c (.ptr 3 (.lit 0)))], sp := spK 12 3 0 }, { gd := [(2, .c (.ptr 4 (.lit 0)))], sp := spK 12 4 0 }]))]
noncomputable def E0 : Env := { bs := bsL, sum := Sx.tabC (Aw.aT bsL), fns := [(4, Try.f4), (12, Sx.Func.marked Try.f12 [(0, 2)]), (13, Try.f13), (14, Sx.Func.marked Try.f14 [(0, 3)]), (16, Try.f16), (24, Sx.Func.marked Try.f24 [(0, 0)]), (30, Sx.Func.marked Try.f30 [(0, 1)]), (25, Try.f25), (9, Try.f9), (28, Try.f28), (36, Try.f36), (37, Try.f37), (38, Try.f38)], loops := Sx.runTab bsL tabE0, lk := Sx.lkOf loopsE0 }
theorem E0ok : E0.Ok Try.prog :=
  Sx.env_ok (Sx.forall_cons (Sx.fnOk_plain Try.func4 (by kernel_rfl) (by kernel_rfl)) (Sx.forall_cons (Sx.fnOk_marked Try.func12 (by kernel_rfl) (by kernel_rfl) (Sx.forall_cons rfl Sx.forall_nil)) (Sx.forall_cons (Sx.fnOk_plain Try.func13 (by kernel_rfl) (by kernel_rfl)) (Sx.forall_cons (Sx.fnOk_marked Try.func14 (by kernel_rfl) (by kernel_rfl) (Sx.forall_cons rfl Sx.forall_nil)) (Sx.forall_cons (Sx.fnOk_plain Try.func16 (by kernel_rfl) (by kernel_rfl)) (Sx.forall_cons (Sx.fnOk_marked Try.func24 (by kernel_rfl) (by kernel_rfl) (Sx.forall_cons rfl Sx.forall_nil)) (Sx.forall_cons (Sx.fnOk_marked Try.func30 (by kernel_rfl) (by kernel_rfl) (Sx.forall_cons rfl Sx.forall_nil)) (Sx.forall_cons (Sx.fnOk_plain Try.func25 (by kernel_rfl) (by kernel_rfl)) (Sx.forall_cons (Sx.fnOk_plain Try.func9 (by kernel_rfl) (by kernel_rfl)) (Sx.forall_cons (Sx.fnOk_plain Try.func28 (by kernel_rfl) (by kernel_rfl)) (Sx.forall_cons (Sx.fnOk_plain Try.func36 (by kernel_rfl) (by kernel_rfl)) (Sx.forall_cons (Sx.fnOk_plain Try.func37 (by kernel_rfl) (by kernel_rfl)) (Sx.forall_cons (Sx.fnOk_plain Try.func38 (by kernel_rfl) (by kernel_rfl)) Sx.forall_nil)))))))))))))
    (Sx.loopsOk_mem (l := loopsE0) (tab := tabE0) rfl rfl (Sx.forall_cons (Sx.mk_eq (by kernel_rfl) rfl) (Sx.forall_cons (Sx.mk_eq (by kernel_rfl) rfl) (Sx.forall_cons (Sx.mk_eq (by kernel_rfl) rfl) (Sx.forall_cons (Sx.mk_eq (by kernel_rfl) rfl) Sx.forall_nil)))) (Sx.forall_cons (Sx.forall_cons (goodC 11 5 0) (Sx.forall_cons (goodC 11 6 0) (Sx.forall_cons (goodC 11 7 0) (Sx.forall_cons (goodC 11 8 0) (Sx.forall_cons (goodC 11 9 0) (Sx.forall_cons (goodC 11 10 0) (Sx.forall_cons (goodC 11 11 0) Sx.forall_nil))))))) (Sx.forall_cons (Sx.forall_cons (goodM1 6 2 0) (Sx.forall_cons (goodM1 6 2 0) (Sx.forall_cons (goodM2 6 2 0) (Sx.forall_cons (goodM2 6 2 0) (Sx.forall_cons (goodM2 6 2 0) (Sx.forall_cons (goodM2 6 2 0) (Sx.forall_cons (goodM2 6 2 0) (Sx.forall_cons (goodM2 6 2 0) (Sx.forall_cons (goodM3 6 2 0) (Sx.forall_cons (goodM3 6 2 0) Sx.forall_nil)))))))))) (Sx.forall_cons (Sx.forall_cons (goodO0 6 2 0) (Sx.forall_cons (goodO0 6 3 0) Sx.forall_nil)) (Sx.forall_cons (Sx.forall_cons (goodK 12 3 0) (Sx.forall_cons (goodK 12 4 0) Sx.forall_nil)) Sx.forall_nil)))))

def base : List (Sx.E × Bool) := [(.bin .lt (.var 91) (.lit 0), false), (.bin .lt (.var 90) (.var 1), false), (.bin .lt (.lit 0) (.var 1), true)]
def base0 : List (Sx.E × Bool) := [(.bin .lt (.var 91) (.lit 0), false), (.bin .lt (.var 90) (.lit 0), false), (.bin .lt (.lit 0) (.var 1), false)]
theorem runs1 : Sx.allG E1.bs (callF Try.prog E1 (evF Try.prog E1 3000) 4 (SA.mvs args 2 Sx.rowM1) (Sx.rowS ks (Sx.mkMul (.var 1) (.lit ks.length))) (Sx.factsOf base)) = true := by kernel_rfl
theorem runsN : Sx.allG E0.bs (callF Try.prog E0 (evF Try.prog E0 3000) 4 (SA.mvs args 2 .nils) {} (Sx.factsOf base0)) = true := by kernel_rfl
theorem runsE : Sx.allG E0.bs (callF Try.prog E0 (evF Try.prog E0 3000) 4 (SA.mvs args 2 Sx.emptyM) Sx.goneS (Sx.factsOf base0)) = true := by kernel_rfl
theorem walk {vs : List Value} {zs : List Int} {s : Value} {w : World} (hv : SFit s args vs zs) (hs : SlIn w ks M s) : Calls Try.prog 4 vs.toArray w fun e w' => e = .returned (.bool true) ∧ Below w.heap.size w w' :=
  Sx.law_sl1 (args := args) (E := E1) (E0 := E0) (n := 3000) Try.checked.mixed E1ok (Sx.tabC_sound (Aw.aT_ok _)) (Sx.tabC_sure (Aw.aT_ok _)) E0ok (Sx.tabC_sound (Aw.aT_ok _)) (Sx.tabC_sure (Aw.aT_ok _)) rfl pro
    (fun zs A off len cap hz => ⟨rfl, rfl, rfl, rfl, pro_z zs A off len cap (show zs.length = 6 from hz.length)⟩) (fun zs A off len cap hz hl hA => holdL hz hl hA)
    [base] (fun zs A off len cap h0 hc _ _ => ⟨_, List.mem_cons_self, holds_cons (decide_eq_false (by show ¬ ((off : Nat) : Int) < 0; omega)) (holds_cons (decide_eq_false (by show ¬ ((cap : Nat) : Int) < ((len : Nat) : Int); omega)) (holds_cons (decide_eq_true (by show (0 : Int) < ((len : Nat) : Int); omega)) holds_nil))⟩)
    [base0] (fun zs A off cap _ _ => ⟨_, List.mem_cons_self, holds_cons (decide_eq_false (by show ¬ ((off : Nat) : Int) < 0; omega)) (holds_cons (decide_eq_false (by show ¬ ((cap : Nat) : Int) < 0; omega)) (holds_cons (decide_eq_false (by show ¬ (0 : Int) < ((0 : Nat) : Int); omega)) holds_nil))⟩)
    (Sx.forall_cons runs1 Sx.forall_nil) (Sx.forall_cons runsN Sx.forall_nil) (Sx.forall_cons runsE Sx.forall_nil) hv hs

set_option maxRecDepth 100000 in
theorem lifted (os : Os) (started : os.Started) (H : Type) (enc : TypeId × Value → H) :
    ReturnsInHanded {} Try.checked os 4 .any (Rows.ledgerCellsSpec.pre6 enc Try.prog Try.f4 Rows.ledgerCellsRow.domain false) (Rows.ledgerCellsSpec.post enc Try.prog Try.f4 false true false false) := by
  refine returnsInHanded_of_change_sized (C := Try.checked) own started (by kernel_rfl) Try.func4
    (ChangeSpec.witness6 (enc := enc) (C := Try.checked) false ⟨#[], #[.slice none 0 0, .agg #[.int .i64 0, .int .i64 0, .int .i64 0], .int .i64 0, .agg #[.int .u8 0, .int .u8 0]], []⟩ 8 (by kernel_rfl) (by kernel_rfl) (by kernel_rfl) (by kernel_rfl)) ?_
  intro W base args0 ds gs before hval0 hW _ hsz0 _
  have hsz : (DataW.weightsEach Try.prog (Try.f4.params.toList ++ Rows.ledgerCellsSpec.plain.varTypes Try.prog) (ds ++ gs)).all (· ≤ reachBytes) = true := hsz0
  have hval : ∀ (j : Nat) t v, Try.f4.params[j]? = some t → args0[j]? = some v → Value.okWide Try.prog W .any base t v := hval0
  have hW' := hW
  obtain ⟨p, q, hA0, hV, rfl, hfz, hnd⟩ := hW
  have hA : DataW.TrodAll enc Try.prog W 0 (fun _ => true) true Try.f4.params.toList args0.toList ds p := hA0
  rw [Try.params4] at hA hval hsz
  obtain ⟨v0, vs0, d0, ds0, p0, q0, hargs, rfl, rfl, h0, r0⟩ := trodAll_cons hA
  obtain ⟨v1, vs1, d1, ds1, p1, q1, rfl, rfl, rfl, h1, r1⟩ := trodAll_cons r0
  obtain ⟨v2, vs2, d2, ds2, p2, q2, rfl, rfl, rfl, h2, r2⟩ := trodAll_cons r1
  obtain ⟨v3, vs3, d3, ds3, p3, q3, rfl, rfl, rfl, h3, r3⟩ := trodAll_cons r2
  obtain ⟨rfl, rfl, rfl⟩ := trodAll_nil r3
  obtain rfl : args0 = #[v0, v1, v2, v3] := by cases args0; simp_all
  obtain ⟨rfl, rfl⟩ := trodVars_none hV
  have lt0 : ∀ x ∈ p0, x.block < W.heap.size := by obtain ⟨m, hm⟩ := h0; exact DataW.trod_lt m _ _ _ hm
  have lt1 : ∀ x ∈ p1, x.block < W.heap.size := by obtain ⟨m, hm⟩ := h1; exact DataW.trod_lt m _ _ _ hm
  have lt2 : ∀ x ∈ p2, x.block < W.heap.size := by obtain ⟨m, hm⟩ := h2; exact DataW.trod_lt m _ _ _ hm
  have lt3 : ∀ x ∈ p3, x.block < W.heap.size := by obtain ⟨m, hm⟩ := h3; exact DataW.trod_lt m _ _ _ hm
  have hsl : SlIn W ks M v0 := Sx.slIn_of (d := 8) Try.underlying31 (by kernel_rfl) (by kernel_rfl) (by decide) (hval 0 _ v0 rfl rfl) h0 (fun el sp hd => by
    subst hd
    have := sized_slice hsz (j := 0) (t := 31) (e := 80) rfl rfl Try.underlying31
    refine Nat.not_lt.1 fun hgt => ?_
    have h2 := Nat.mul_le_mul_right (Try.prog.bytesOf 80) (show M + 1 ≤ el.length + sp.length by omega)
    have h3 : (M + 1) * Try.prog.bytesOf 80 > reachBytes := of_decide_eq_true (by kernel_rfl)
    omega)
  have hfit1 : Sx.AS.fits (.agg [.i64, .i64, .i64]) v1 := Sx.AS.fits_of (by kernel_rfl) (hval 1 _ v1 rfl rfl)
  have hfit2 : Sx.AS.fits (.int .i64) v2 := Sx.AS.fits_of (by kernel_rfl) (hval 2 _ v2 rfl rfl)
  have hfit3 : Sx.AS.fits (.agg [.u8, .u8]) v3 := Sx.AS.fits_of (by kernel_rfl) (hval 3 _ v3 rfl rfl)
  have g4 : SFit v0 [] [] [] := .nil
  obtain ⟨y3, g3⟩ := Sx.sfit_agg hfit3 g4
  obtain ⟨y2, g2⟩ := Sx.sfit_int hfit2 g3
  obtain ⟨y1, g1⟩ := Sx.sfit_agg hfit1 g2
  have g0 := Sx.SFit.sl g1
  clear hA0 hval0 hsz0
  refine (walk g0 hsl).mono fun e W' ⟨he, bel⟩ => ?_
  subst he
  exact ⟨_, rfl, _, _, _, [], _, [], hW', trodAll_mk1 (shut_bool Try.underlying4 _), (trodAll_cons_mk (Below.trod laidOut (by kernel_rfl) (of_decide_eq_true (by kernel_rfl)) h0 bel lt0) (trodAll_cons_mk (Below.trod laidOut (by kernel_rfl) (of_decide_eq_true (by kernel_rfl)) h1 bel lt1) (trodAll_cons_mk (Below.trod laidOut (by kernel_rfl) (of_decide_eq_true (by kernel_rfl)) h2 bel lt2) (trodAll_cons_mk (Below.trod laidOut (by kernel_rfl) (of_decide_eq_true (by kernel_rfl)) h3 bel lt3) trodAll_mk0)))), rfl, bel.frame _, fun h => by cases h⟩

theorem over : Rows.ledgerCellsRow.holds Try.pinned (OpenSpec.ofChange Rows.ledgerCellsSpec) :=
  OpenClaim.holds_of_wide 4 Try.f4 rfl rfl rfl rfl rfl rfl rfl ⟨rfl, rfl, rfl, rfl, rfl⟩ rfl rfl rfl rfl rfl (by kernel_rfl) Try.func4 (by kernel_rfl)
    (of_decide_eq_true (by kernel_rfl)) (by unfold Func.isWrapper; first | (rw [if_pos (by decide +kernel)]; kernel_rfl) | (rw [if_neg (by decide +kernel)]; exact ⟨rfl, rfl⟩))
    (fun os started H enc _ => lifted os started H enc)

/-- THE STATEMENT. -/
theorem proved : Rows.LedgerCellsSaid := over
#print axioms proved
end Go.Proofs.Ytigblagodlfedaa.ledgerCells
