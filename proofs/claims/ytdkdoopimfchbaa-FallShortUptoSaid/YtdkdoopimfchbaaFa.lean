/- How many of a row of cells are pushed, how far the first one falls: the program's and the reference's, for every row that is not empty. -/
import Derived.Test.YtdkdoopimfchbaaKc
import Derived.Test.YtdkdoopimfchbaaSye
namespace Go.Proofs.Ytdkdoopimfchbaa.Fa
open Go.RowKit
open Sx (Env evF callF Val Bds lead lead_le lead_all lead_stop cellP prE prE_T Holds holds_cons holds_nil)
set_option linter.unusedVariables false
def base : List (Sx.E × Bool) := [(.bin .lt (.var 91) (.lit 0), false), (.bin .lt (.var 90) (.var 1), false), (.bin .lt (.lit 0) (.var 1), true)]
/-- Symbols: an offset, a length, a capacity, and three numbers more; one row. -/
def val (A : Nat → Int) (off len cap : Nat) (x y z : Int) : Val := ⟨fun i => if i = 91 then off else if i = 1 then len else if i = 90 then cap else if i = 2 then x else if i = 3 then y else if i = 4 then z else 0, fun _ => false, fun j => if j = 0 then A else fun _ => 0, fun _ => ByteArray.empty⟩
theorem val_ok (A : Nat → Int) (off len cap : Nat) (x y z : Int) : (val A off len cap x y z).i 91 = (off : Nat) ∧ (val A off len cap x y z).i 1 = (len : Nat) ∧ (val A off len cap x y z).i 90 = (cap : Nat) ∧ (val A off len cap x y z).a 0 = A := ⟨rfl, rfl, rfl, rfl⟩
theorem base_ok {A : Nat → Int} {off len cap : Nat} {x y z : Int} (h0 : 0 < len) (hc : len ≤ cap) : Holds base (val A off len cap x y z) := by
  refine holds_cons ?_ (holds_cons ?_ (holds_cons ?_ holds_nil)) <;> simp only [Sx.E.T, Sx.E.I, val, Nat.reduceEqDiff, if_true, if_false, decide_eq_false_iff_not, decide_eq_true_eq] <;> omega
theorem holds_append {a b : List (Sx.E × Bool)} {ρ : Val} (ha : Holds a ρ) (hb : Holds b ρ) : Holds (a ++ b) ρ := fun p hp => (List.mem_append.1 hp).elim (ha p) (hb p)

/-! ### How many are pushed -/
def rowP (A : Nat → Int) (n : Nat) : Nat := lead (fun k => cellP 1 A (k * 2 + 0)) n
def rowBad (A : Nat → Int) (n : Nat) : Bool := decide (8 < rowP A n) || (decide (rowP A n = n) || !(cellP 2 A (rowP A n * 2 + 0)))
def rowN (A : Nat → Int) (n : Nat) : Int := if rowP A n = 0 then 0 else if rowBad A n then 0 else rowP A n
def rowE (A : Nat → Int) (n : Nat) : Int := if rowP A n = 0 then 5 else if rowBad A n then 12 else 0
def rowR (A : Nat → Int) (n : Nat) : Value := .tuple #[.int .i64 (rowN A n), .int .i64 (rowE A n)]
def proR (A : Nat → Int) (off len cap : Nat) : Val := val A off len cap (rowP A len) (rowN A len) (rowE A len)
def bsR : Bds where
  v := [(0, 0), (1, 70368744177663), (0, 70368744177663), (0, 8), (0, 12)]
  a := [(0, 255)]
  J := fun ρ => ρ.i 2 = rowP (ρ.a 0) (ρ.i 1).toNat
theorem a255 {A : Nat → Int} (h : ∀ n, ∃ k ∈ ([.u8, .u8] : List IntKind), k.min ≤ A n ∧ A n ≤ k.max) (n : Nat) : 0 ≤ A n ∧ A n ≤ 255 := by
  obtain ⟨k, hk, h1⟩ := h n
  simp only [List.mem_cons, List.not_mem_nil, or_false, or_self] at hk
  subst hk
  exact h1
theorem row_bds (A : Nat → Int) (n : Nat) : 0 ≤ rowN A n ∧ rowN A n ≤ 8 ∧ 0 ≤ rowE A n ∧ rowE A n ≤ 12 := by
  unfold rowN rowE
  by_cases h : rowP A n = 0
  · rw [if_pos h, if_pos h]; omega
  · rw [if_neg h, if_neg h]
    cases hb : rowBad A n with
    | true => simp
    | false =>
      have : ¬ 8 < rowP A n := fun h8 => by simp [rowBad, h8] at hb
      simp; omega
theorem holdR (A : Nat → Int) (off len cap : Nat) (h0 : 0 < len) (_ : len ≤ cap) (hl : len ≤ 70368744177663) (hA : ∀ n, ∃ k ∈ ([.u8, .u8] : List IntKind), k.min ≤ A n ∧ A n ≤ k.max) : bsR.hold (proR A off len cap) := by
  have hp := lead_le (fun k => cellP 1 A (k * 2 + 0)) len
  have hb := row_bds A len
  refine ⟨fun i l u h => ?_, fun i l u h n => ?_, rfl⟩
  · rcases i with _ | _ | _ | _ | _ | i
    · simp [bsR] at h; obtain ⟨rfl, rfl⟩ := h; exact ⟨Int.le_refl _, Int.le_refl _⟩
    · simp [bsR] at h; obtain ⟨rfl, rfl⟩ := h; show 1 ≤ (len : Int) ∧ (len : Int) ≤ _; omega
    · simp [bsR] at h; obtain ⟨rfl, rfl⟩ := h; show 0 ≤ ((rowP A len : Nat) : Int) ∧ ((rowP A len : Nat) : Int) ≤ _; unfold rowP; omega
    · simp [bsR] at h; obtain ⟨rfl, rfl⟩ := h; exact ⟨hb.1, hb.2.1⟩
    · simp [bsR] at h; obtain ⟨rfl, rfl⟩ := h; exact ⟨hb.2.2.1, hb.2.2.2⟩
    · simp [bsR] at h
  · rcases i with _ | i
    · simp [bsR] at h; obtain ⟨rfl, rfl⟩ := h; exact a255 hA n
    · simp [bsR] at h
theorem scanR : Sx.ScanOk bsR 1 0 (.var 1) (.var 2) [] where
  same ρ v hs h := Sx.hold_same hs (by decide) (by decide) (fun hJ => by show v.i 2 = _; rw [Sx.same_i hs (by decide), Sx.same_i hs (by decide), Sx.same_a hs (by decide)]; exact hJ) h
  under := rfl
  lim ρ hb _ := by have := hb.1 1 _ _ rfl; show 0 ≤ ρ.i 1 ∧ ρ.i 1 ≤ _; omega
  val ρ hb _ := hb.2.2
def f0 : List (Sx.E × Bool) := [(.bin .lt (.var 2) (.var 1), true), (prE 1 (.var 2) 0, false)]
def f1 : List (Sx.E × Bool) := [(.bin .eq (.var 2) (.var 1), true)]
def fB : List (Sx.E × Bool) := [(.bin .lt (.var 1) (.var 2), false)]
theorem goodA : ∃ J μ, Sx.Good bsR (Sx.scanA 9 4 1 0 (.var 1) (.var 2) [] f0 f1) J μ := ⟨_, _, Sx.scanA_good scanR
  (fun ρ hb _ hlt => by
    have hlt : ρ.i 2 < ρ.i 1 := hlt
    have hv : ρ.i 2 = rowP (ρ.a 0) (ρ.i 1).toNat := hb.2.2
    have hs := lead_stop (fun k => cellP 1 (ρ.a 0) (k * 2 + 0)) (ρ.i 1).toNat (by unfold rowP at hv; omega)
    exact holds_cons (by simp only [Sx.E.T, Sx.E.I]; exact decide_eq_true hlt) (holds_cons (by rw [prE_T (v := ρ) (i := .var 2) (k := rowP (ρ.a 0) (ρ.i 1).toNat) hv]; exact hs) holds_nil))
  (fun ρ hb _ he => holds_cons (by simp only [Sx.E.T]; exact beq_iff_eq.2 he) holds_nil)⟩
theorem goodB : ∃ J μ, Sx.Good bsR (Sx.scanB 4 1 0 (.var 1) (.var 2) [] fB) J μ := ⟨_, _, Sx.scanB_good scanR
  (fun ρ hb _ => holds_cons (by
    have hv : ρ.i 2 = rowP (ρ.a 0) (ρ.i 1).toNat := hb.2.2
    have hp := lead_le (fun k => cellP 1 (ρ.a 0) (k * 2 + 0)) (ρ.i 1).toNat
    have h1 := hb.1 1 _ _ rfl
    show decide (ρ.i 1 < ρ.i 2) = false
    rw [decide_eq_false_iff_not]
    unfold rowP at hv; omega) holds_nil)⟩
def badE : Sx.E := .bin .or (.bin .lt (.lit 8) (.var 2)) (.bin .or (.bin .eq (.var 1) (.var 2)) (.un .not (prE 2 (.var 2) 0)))
def badF : Sx.E := .bin .or (.bin .lt (.lit 8) (.var 2)) (.bin .or (.un .not (.bin .lt (.var 2) (.var 1))) (.un .not (prE 2 (.var 2) 0)))
def cA : List (Sx.E × Bool) := [(.bin .eq (.var 2) (.lit 0), true), (prE 1 (.lit 0) 0, false), (.bin .eq (.var 3) (.lit 0), true), (.bin .eq (.var 4) (.lit 5), true)]
def cB : List (Sx.E × Bool) := [(.bin .lt (.lit 0) (.var 2), true), (prE 1 (.lit 0) 0, true), (badE, true), (badF, true), (.bin .eq (.var 3) (.lit 0), true), (.bin .eq (.var 4) (.lit 12), true)]
def cC : List (Sx.E × Bool) := [(.bin .lt (.lit 0) (.var 2), true), (prE 1 (.lit 0) 0, true), (badE, false), (badF, false), (.bin .eq (.var 2) (.var 3), true), (.bin .eq (.var 4) (.lit 0), true)]
def casesR : List (List (Sx.E × Bool)) := [cA ++ base, cB ++ base, cC ++ base]
theorem coverR (A : Nat → Int) (off len cap : Nat) (h0 : 0 < len) (hc : len ≤ cap) (_ : bsR.hold (proR A off len cap)) : ∃ c ∈ casesR, Holds c (proR A off len cap) := by
  have hbase : Holds base (proR A off len cap) := base_ok h0 hc
  have e2 : (Sx.E.var 2).I (proR A off len cap) = (rowP A len : Nat) := rfl
  have e1 : (Sx.E.var 1).I (proR A off len cap) = (len : Nat) := rfl
  have e3 : (Sx.E.var 3).I (proR A off len cap) = rowN A len := rfl
  have e4 : (Sx.E.var 4).I (proR A off len cap) = rowE A len := rfl
  have ea : (proR A off len cap).a 0 = A := rfl
  have hp := lead_le (fun k => cellP 1 A (k * 2 + 0)) len
  have q0 : (prE 1 (.lit 0) 0).T (proR A off len cap) = cellP 1 A (0 * 2 + 0) := by rw [prE_T (k := 0) rfl, ea]
  have q2 : (prE 2 (.var 2) 0).T (proR A off len cap) = cellP 2 A (rowP A len * 2 + 0) := by rw [prE_T e2, ea]
  by_cases hz : rowP A len = 0
  · refine ⟨_, List.mem_cons_self, holds_append (holds_cons ?_ (holds_cons ?_ (holds_cons ?_ (holds_cons ?_ holds_nil)))) hbase⟩
    · simp only [Sx.E.T, e2, hz]; rfl
    · rw [q0]
      have := lead_stop (fun k => cellP 1 A (k * 2 + 0)) len (by unfold rowP at hz; omega)
      unfold rowP at hz
      rw [hz] at this; exact this
    · simp only [Sx.E.T, e3, rowN, if_pos hz]; rfl
    · simp only [Sx.E.T, e4, rowE, if_pos hz]; rfl
  · have hpos : (Sx.E.bin .lt (.lit 0) (.var 2)).T (proR A off len cap) = true := by show decide ((0 : Int) < (rowP A len : Nat)) = true; rw [decide_eq_true_iff]; omega
    have hq : (prE 1 (.lit 0) 0).T (proR A off len cap) = true := by rw [q0]; exact lead_all (fun k => cellP 1 A (k * 2 + 0)) len 0 (by unfold rowP at hz; omega)
    have c1 : decide ((8 : Int) < ((rowP A len : Nat) : Int)) = decide (8 < rowP A len) := by rw [Bool.eq_iff_iff, decide_eq_true_iff, decide_eq_true_iff]; omega
    have c2 : (((len : Nat) : Int) == ((rowP A len : Nat) : Int)) = decide (rowP A len = len) := by rw [Bool.eq_iff_iff, beq_iff_eq, decide_eq_true_iff]; omega
    have c3 : (!(decide (((rowP A len : Nat) : Int) < ((len : Nat) : Int)))) = decide (rowP A len = len) := by
      have hp' : rowP A len ≤ len := hp
      rw [Bool.eq_iff_iff, Bool.not_eq_true', decide_eq_false_iff_not, decide_eq_true_iff]; omega
    have hb1 : badE.T (proR A off len cap) = rowBad A len := by
      show (decide ((8 : Int) < (rowP A len : Nat)) || (((len : Nat) : Int) == ((rowP A len : Nat) : Int) || !((prE 2 (.var 2) 0).T (proR A off len cap)))) = _
      rw [q2, c1, c2]; rfl
    have hb2 : badF.T (proR A off len cap) = rowBad A len := by
      show (decide ((8 : Int) < (rowP A len : Nat)) || (!(decide (((rowP A len : Nat) : Int) < ((len : Nat) : Int))) || !((prE 2 (.var 2) 0).T (proR A off len cap)))) = _
      rw [q2, c1, c3]; rfl
    cases hb : rowBad A len with
    | true =>
      refine ⟨_, List.mem_cons_of_mem _ List.mem_cons_self, holds_append (holds_cons hpos (holds_cons hq (holds_cons (hb1.trans hb) (holds_cons (hb2.trans hb) (holds_cons ?_ (holds_cons ?_ holds_nil)))))) hbase⟩
      · simp only [Sx.E.T, e3, rowN, if_neg hz, hb]; rfl
      · simp only [Sx.E.T, e4, rowE, if_neg hz, hb]; rfl
    | false =>
      refine ⟨_, List.mem_cons_of_mem _ (List.mem_cons_of_mem _ List.mem_cons_self), holds_append (holds_cons hpos (holds_cons hq (holds_cons (hb1.trans hb) (holds_cons (hb2.trans hb) (holds_cons ?_ (holds_cons ?_ holds_nil)))))) hbase⟩
      · simp only [Sx.E.T, e2, e3, rowN, if_neg hz, hb]; exact beq_self_eq_true _
      · simp only [Sx.E.T, e4, rowE, if_neg hz, hb]; rfl
def XR : Sx.MV := .tup [(false, [.int .i64 (.var 3)]), (false, [.int .i64 (.var 4)])]
noncomputable def loopsR : List (Nat × Code) := [(0, Sx.loopAt Try.f29 0)]
noncomputable def tabR : Sx.Tab := [(0, (Sx.loopAt Try.f29 0, [{ sp := Sx.scanA 9 4 1 0 (.var 1) (.var 2) [] f0 f1 }]))]
noncomputable def ER : Env := { bs := bsR, sum := Sx.tabC (Kc.sT bsR), fns := [(29, Sx.Func.marked Try.f29 [(0, 0)]), (12, Try.f12), (26, Try.f26), (27, Try.f27), (30, Try.f30)], loops := Sx.runTab bsR tabR, lk := Sx.lkOf loopsR }
theorem EROk : ER.Ok Try.prog :=
  Sx.env_ok (Sx.forall_cons (Sx.fnOk_marked Try.func29 (by kernel_rfl) (by kernel_rfl) (Sx.forall_cons rfl Sx.forall_nil)) (Sx.forall_cons (Sx.fnOk_plain Try.func12 (by kernel_rfl) (by kernel_rfl)) (Sx.forall_cons (Sx.fnOk_plain Try.func26 (by kernel_rfl) (by kernel_rfl)) (Sx.forall_cons (Sx.fnOk_plain Try.func27 (by kernel_rfl) (by kernel_rfl)) (Sx.forall_cons (Sx.fnOk_plain Try.func30 (by kernel_rfl) (by kernel_rfl)) Sx.forall_nil))))) (Sx.loopsOk_mem (l := loopsR) (tab := tabR) rfl rfl (Sx.forall_cons (Sx.mk_eq (by kernel_rfl) rfl) Sx.forall_nil) (Sx.forall_cons (Sx.forall_cons goodA Sx.forall_nil) Sx.forall_nil))
noncomputable def loopsS : List (Nat × Code) := [(0, Sx.loopAt Try.f13 0)]
noncomputable def tabS : Sx.Tab := [(0, (Sx.loopAt Try.f13 0, [{ sp := Sx.scanB 4 1 0 (.var 1) (.var 2) [] fB }]))]
noncomputable def ES : Env := { bs := bsR, sum := Sx.tabC (Kc.sT bsR), fns := [(13, Sx.Func.marked Try.f13 [(0, 0)]), (24, Try.f24)], loops := Sx.runTab bsR tabS, lk := Sx.lkOf loopsS }
theorem ESOk : ES.Ok Try.prog :=
  Sx.env_ok (Sx.forall_cons (Sx.fnOk_marked Try.func13 (by kernel_rfl) (by kernel_rfl) (Sx.forall_cons rfl Sx.forall_nil)) (Sx.forall_cons (Sx.fnOk_plain Try.func24 (by kernel_rfl) (by kernel_rfl)) Sx.forall_nil)) (Sx.loopsOk_mem (l := loopsS) (tab := tabS) rfl rfl (Sx.forall_cons (Sx.mk_eq (by kernel_rfl) rfl) Sx.forall_nil) (Sx.forall_cons (Sx.forall_cons goodB Sx.forall_nil) Sx.forall_nil))
theorem c12 : Sx.FnA Try.prog 12 [.u8, .u8] rowR :=
  Sx.fnA_of (E := ER) (n := 3000) (m := 4) Try.checked.mixed EROk (Sx.tabC_sound (Kc.sT_ok _)) (Sx.tabC_sure (Kc.sT_ok _)) proR (fun _ _ _ _ => val_ok ..) holdR casesR coverR XR (fun _ _ _ _ _ _ => rfl) (Sx.forall_cons (by kernel_rfl) (Sx.forall_cons (by kernel_rfl) (Sx.forall_cons (by kernel_rfl) Sx.forall_nil)))
theorem c13 : Sx.FnA Try.prog 13 [.u8, .u8] rowR :=
  Sx.fnA_of (E := ES) (n := 3000) (m := 4) Try.checked.mixed ESOk (Sx.tabC_sound (Kc.sT_ok _)) (Sx.tabC_sure (Kc.sT_ok _)) proR (fun _ _ _ _ => val_ok ..) holdR casesR coverR XR (fun _ _ _ _ _ _ => rfl) (Sx.forall_cons (by kernel_rfl) (Sx.forall_cons (by kernel_rfl) (Sx.forall_cons (by kernel_rfl) Sx.forall_nil)))

/-! ### How far the first one falls -/
def landP (A : Nat → Int) (n : Nat) : Nat := lead (fun k => cellP 2 A (k * 2 + 2)) (n - 1)
def landN (A : Nat → Int) (n : Nat) : Int := if cellP 4 A 0 then landP A n else 0
def landR (A : Nat → Int) (n : Nat) : Value := .int .i64 (landN A n)
def proL (A : Nat → Int) (off len cap : Nat) : Val := val A off len cap (landP A len) (landN A len) 0
def len1 : Sx.E := .bin .add (.var 1) (.lit (-1))
def bsL : Bds where
  v := [(0, 0), (1, 70368744177663), (0, 70368744177663), (0, 70368744177663)]
  a := [(0, 255)]
  J := fun ρ => ρ.i 2 = landP (ρ.a 0) (ρ.i 1).toNat ∧ ρ.i 3 = landN (ρ.a 0) (ρ.i 1).toNat
theorem holdL (A : Nat → Int) (off len cap : Nat) (h0 : 0 < len) (_ : len ≤ cap) (hl : len ≤ 70368744177663) (hA : ∀ n, ∃ k ∈ ([.u8, .u8] : List IntKind), k.min ≤ A n ∧ A n ≤ k.max) : bsL.hold (proL A off len cap) := by
  have hp := lead_le (fun k => cellP 2 A (k * 2 + 2)) (len - 1)
  have hn : 0 ≤ landN A len ∧ landN A len ≤ 70368744177663 := by unfold landN landP; split <;> omega
  refine ⟨fun i l u h => ?_, fun i l u h n => ?_, rfl, rfl⟩
  · rcases i with _ | _ | _ | _ | i
    · simp [bsL] at h; obtain ⟨rfl, rfl⟩ := h; exact ⟨Int.le_refl _, Int.le_refl _⟩
    · simp [bsL] at h; obtain ⟨rfl, rfl⟩ := h; show 1 ≤ (len : Int) ∧ (len : Int) ≤ _; omega
    · simp [bsL] at h; obtain ⟨rfl, rfl⟩ := h; show 0 ≤ ((landP A len : Nat) : Int) ∧ ((landP A len : Nat) : Int) ≤ _; unfold landP; omega
    · simp [bsL] at h; obtain ⟨rfl, rfl⟩ := h; exact hn
    · simp [bsL] at h
  · rcases i with _ | i
    · simp [bsL] at h; obtain ⟨rfl, rfl⟩ := h; exact a255 hA n
    · simp [bsL] at h
def preL : List (Sx.E × Bool) := [(prE 4 (.lit 0) 0, true)]
theorem scanL (pre : List (Sx.E × Bool)) : Sx.ScanOk bsL 2 2 len1 (.var 2) pre where
  same ρ v hs h := Sx.hold_same hs (by decide) (by decide) (fun hJ => by
    refine ⟨?_, ?_⟩
    · rw [Sx.same_i hs (by decide), Sx.same_i hs (by decide), Sx.same_a hs (by decide)]; exact hJ.1
    · rw [Sx.same_i hs (by decide), Sx.same_i hs (by decide), Sx.same_a hs (by decide)]; exact hJ.2) h
  under := rfl
  lim ρ hb _ := by have := hb.1 1 _ _ rfl; show 0 ≤ ρ.i 1 + -1 ∧ ρ.i 1 + -1 ≤ _; omega
  val ρ hb _ := by
    have h1 := hb.1 1 _ _ rfl
    have := hb.2.2.1
    show ρ.i 2 = _
    rw [this]
    show ((landP (ρ.a 0) (ρ.i 1).toNat : Nat) : Int) = ((lead _ (ρ.i 1 + -1).toNat : Nat) : Int)
    unfold landP
    rw [show (ρ.i 1).toNat - 1 = (ρ.i 1 + -1).toNat from by omega]
def g1 : List (Sx.E × Bool) := [(.bin .eq len1 (.var 3), true)]
theorem goodL : ∃ J μ, Sx.Good bsL (Sx.scanA 9 4 2 2 len1 (.var 2) preL [] g1) J μ := ⟨_, _, Sx.scanA_good (scanL preL) (fun _ _ _ _ => holds_nil)
  (fun ρ hb hp he => holds_cons (by
    have hq := hp _ List.mem_cons_self
    simp only at hq
    rw [prE_T (v := ρ) (k := 0) rfl] at hq
    have h2 := hb.2.2.1
    have h3 := hb.2.2.2
    have he : ρ.i 2 = ρ.i 1 + -1 := he
    have hl : landN (ρ.a 0) (ρ.i 1).toNat = landP (ρ.a 0) (ρ.i 1).toNat := if_pos hq
    simp only [Sx.E.T, len1, Sx.E.I]
    rw [beq_iff_eq, h3, hl, ← h2, he]) holds_nil)⟩
theorem goodM : ∃ J μ, Sx.Good bsL (Sx.scanC 3 4 2 (.var 1) (.var 2) [] []) J μ := ⟨_, _, Sx.scanC_good (scanL []) (fun _ _ _ => holds_nil)⟩
def d1 : List (Sx.E × Bool) := [(prE 4 (.lit 0) 0, false), (.bin .eq (.var 3) (.lit 0), true)]
def d2 : List (Sx.E × Bool) := [(prE 4 (.lit 0) 0, true), (.bin .eq (.var 1) (.lit 1), true), (.bin .eq (.var 2) (.lit 0), true), (.bin .eq (.var 3) (.lit 0), true)]
def d3 : List (Sx.E × Bool) := [(prE 4 (.lit 0) 0, true), (.bin .lt (.lit 1) (.var 1), true), (.bin .eq (.var 90) (.lit 1), false), (.bin .eq (.var 2) (.var 3), true)]
def casesL : List (List (Sx.E × Bool)) := [d1 ++ base, d2 ++ base, d3 ++ base]
theorem coverL (A : Nat → Int) (off len cap : Nat) (h0 : 0 < len) (hc : len ≤ cap) (_ : bsL.hold (proL A off len cap)) : ∃ c ∈ casesL, Holds c (proL A off len cap) := by
  have hbase : Holds base (proL A off len cap) := base_ok h0 hc
  have e2 : (Sx.E.var 2).I (proL A off len cap) = (landP A len : Nat) := rfl
  have e1 : (Sx.E.var 1).I (proL A off len cap) = (len : Nat) := rfl
  have e9 : (Sx.E.var 90).I (proL A off len cap) = (cap : Nat) := rfl
  have e3 : (Sx.E.var 3).I (proL A off len cap) = landN A len := rfl
  have ea : (proL A off len cap).a 0 = A := rfl
  have q0 : (prE 4 (.lit 0) 0).T (proL A off len cap) = cellP 4 A 0 := by rw [prE_T (k := 0) rfl, ea]
  cases hq : cellP 4 A 0 with
  | false =>
    have hl : landN A len = 0 := by unfold landN; rw [hq]; rfl
    exact ⟨_, List.mem_cons_self, holds_append (holds_cons (q0.trans hq) (holds_cons (by simp only [Sx.E.T, e3, hl]; rfl) holds_nil)) hbase⟩
  | true =>
    have hl : landN A len = landP A len := by unfold landN; rw [hq]; rfl
    by_cases h1 : len = 1
    · have hz : landP A len = 0 := by
        have := lead_le (fun k => cellP 2 A (k * 2 + 2)) (len - 1)
        unfold landP; omega
      refine ⟨_, List.mem_cons_of_mem _ List.mem_cons_self, holds_append (holds_cons (q0.trans hq) (holds_cons ?_ (holds_cons ?_ (holds_cons ?_ holds_nil)))) hbase⟩
      · simp only [Sx.E.T, h1]; rfl
      · simp only [Sx.E.T, e2, hz]; rfl
      · simp only [Sx.E.T, e3, hl, hz]; rfl
    · refine ⟨_, List.mem_cons_of_mem _ (List.mem_cons_of_mem _ List.mem_cons_self), holds_append (holds_cons (q0.trans hq) (holds_cons ?_ (holds_cons ?_ (holds_cons ?_ holds_nil)))) hbase⟩
      · show decide ((1 : Int) < (len : Nat)) = true; rw [decide_eq_true_iff]; omega
      · show (((cap : Nat) : Int) == 1) = false; rw [beq_eq_false_iff_ne]; omega
      · simp only [Sx.E.T, e2, e3, hl]; exact beq_self_eq_true _
def XL : Sx.MV := .c (.int .i64 (.var 3))
noncomputable def loopsL : List (Nat × Code) := [(0, Sx.loopAt Try.f29 0)]
noncomputable def tabL : Sx.Tab := [(0, (Sx.loopAt Try.f29 0, [{ sp := Sx.scanA 9 4 2 2 len1 (.var 2) preL [] g1 }]))]
noncomputable def EL : Env := { bs := bsL, sum := Sx.tabC (Kc.sT bsL), fns := [(29, Sx.Func.marked Try.f29 [(0, 0)]), (14, Try.f14), (26, Try.f26), (27, Try.f27), (30, Try.f30)], loops := Sx.runTab bsL tabL, lk := Sx.lkOf loopsL }
theorem ELOk : EL.Ok Try.prog :=
  Sx.env_ok (Sx.forall_cons (Sx.fnOk_marked Try.func29 (by kernel_rfl) (by kernel_rfl) (Sx.forall_cons rfl Sx.forall_nil)) (Sx.forall_cons (Sx.fnOk_plain Try.func14 (by kernel_rfl) (by kernel_rfl)) (Sx.forall_cons (Sx.fnOk_plain Try.func26 (by kernel_rfl) (by kernel_rfl)) (Sx.forall_cons (Sx.fnOk_plain Try.func27 (by kernel_rfl) (by kernel_rfl)) (Sx.forall_cons (Sx.fnOk_plain Try.func30 (by kernel_rfl) (by kernel_rfl)) Sx.forall_nil))))) (Sx.loopsOk_mem (l := loopsL) (tab := tabL) rfl rfl (Sx.forall_cons (Sx.mk_eq (by kernel_rfl) rfl) Sx.forall_nil) (Sx.forall_cons (Sx.forall_cons goodL Sx.forall_nil) Sx.forall_nil))
noncomputable def loopsM : List (Nat × Code) := [(0, Sx.loopAt Try.f15 0)]
noncomputable def tabM : Sx.Tab := [(0, (Sx.loopAt Try.f15 0, [{ sp := Sx.scanC 3 4 2 (.var 1) (.var 2) [] [] }]))]
noncomputable def EM : Env := { bs := bsL, sum := Sx.tabC (Kc.sT bsL), fns := [(15, Sx.Func.marked Try.f15 [(0, 0)]), (24, Try.f24)], loops := Sx.runTab bsL tabM, lk := Sx.lkOf loopsM }
theorem EMOk : EM.Ok Try.prog :=
  Sx.env_ok (Sx.forall_cons (Sx.fnOk_marked Try.func15 (by kernel_rfl) (by kernel_rfl) (Sx.forall_cons rfl Sx.forall_nil)) (Sx.forall_cons (Sx.fnOk_plain Try.func24 (by kernel_rfl) (by kernel_rfl)) Sx.forall_nil)) (Sx.loopsOk_mem (l := loopsM) (tab := tabM) rfl rfl (Sx.forall_cons (Sx.mk_eq (by kernel_rfl) rfl) Sx.forall_nil) (Sx.forall_cons (Sx.forall_cons goodM Sx.forall_nil) Sx.forall_nil))
theorem c14 : Sx.FnA Try.prog 14 [.u8, .u8] landR :=
  Sx.fnA_of (E := EL) (n := 3000) (m := 4) Try.checked.mixed ELOk (Sx.tabC_sound (Kc.sT_ok _)) (Sx.tabC_sure (Kc.sT_ok _)) proL (fun _ _ _ _ => val_ok ..) holdL casesL coverL XL (fun _ _ _ _ _ _ => rfl) (Sx.forall_cons (by kernel_rfl) (Sx.forall_cons (by kernel_rfl) (Sx.forall_cons (by kernel_rfl) Sx.forall_nil)))
theorem c15 : Sx.FnA Try.prog 15 [.u8, .u8] landR :=
  Sx.fnA_of (E := EM) (n := 3000) (m := 4) Try.checked.mixed EMOk (Sx.tabC_sound (Kc.sT_ok _)) (Sx.tabC_sure (Kc.sT_ok _)) proL (fun _ _ _ _ => val_ok ..) holdL casesL coverL XL (fun _ _ _ _ _ _ => rfl) (Sx.forall_cons (by kernel_rfl) (Sx.forall_cons (by kernel_rfl) (Sx.forall_cons (by kernel_rfl) Sx.forall_nil)))
-- KNOWN 12 13 14 15
end Go.Proofs.Ytdkdoopimfchbaa.Fa
