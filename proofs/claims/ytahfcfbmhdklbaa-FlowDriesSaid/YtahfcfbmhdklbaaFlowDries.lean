/- 'FlowDries' of chapter 12 holds as stated: for every input the law returns true, and the arguments read afterwards as before, for every world it is called in. -/
import Derived.Test.YtahfcfbmhdklbaaRows
import Derived.Test.YtahfcfbmhdklbaaSyh
import Derived.Test.YtahfcfbmhdklbaaKc
import Derived.WalkKit
import Derived.ProofKit
import Derived.OpenShut
import Derived.ChangeOld
import Derived.Below
import Derived.SizedLaws
namespace Go.Proofs.Ytahfcfbmhdklbaa.flowDries
open Go.ChangeShapes Go.WideShapes Go.ChangeAt Go.RowKit
open Sx (Env evF callF Val Bds Holds holds_cons holds_nil SlIn SFit PA SA)
set_option linter.unusedVariables false

theorem own : ownKnob Try.prog.godebug = none := by kernel_rfl
theorem laidOut : laidOutB Try.prog = true := by kernel_rfl

/-! ### Water that dries -/
def args : List SA := [.one .sl]
def ks : List IntKind := [.u8]
def M : Nat := 140737488355327
abbrev Row := Nat → Int × Int
/-- The row of cells at the start. -/
def c0 (A : Nat → Int) (n : Nat) : Row := fun i => if i < n ∧ (1 ≤ A i ∧ A i ≤ 7) then (13, A i) else (0, 0)
/-- The least level beside a cell. -/
def eL (n : Nat) (C : Row) (i : Nat) : Int := if i + 1 < n ∧ (C (i + 1)).1 = 13 then (C (i + 1)).2 else 7
def lst (n : Nat) (C : Row) (i : Nat) : Int := if 0 < i ∧ (C (i - 1)).1 = 13 then min (C (i - 1)).2 (eL n C i) else eL n C i
/-- One turn. -/
def stepC (n : Nat) (C : Row) : Row := fun i => if i < n ∧ (C i).1 = 13 then (if lst n C i = 7 then (0, 0) else (13, lst n C i + 1)) else C i
def turn (A : Nat → Int) (n : Nat) : Nat → Row
  | 0 => c0 A n
  | t + 1 => stepC n (turn A n t)
def Inv (n t : Nat) (C : Row) : Prop := ∀ i, C i = (0, 0) ∨ ((C i).1 = 13 ∧ (t : Int) < (C i).2 ∧ (C i).2 ≤ 7 ∧ i < n)
theorem eL_bd {n t : Nat} {C : Row} (h : Inv n t C) (i : Nat) : eL n C i = 7 ∨ ((t : Int) < eL n C i ∧ eL n C i ≤ 7) := by
  unfold eL
  split
  · rename_i hc
    rcases h (i + 1) with e | ⟨_, h2, h3, _⟩
    · rw [e] at hc; simp at hc
    · exact .inr ⟨h2, h3⟩
  · exact .inl rfl
theorem lst_bd {n t : Nat} {C : Row} (h : Inv n t C) (i : Nat) : lst n C i = 7 ∨ ((t : Int) < lst n C i ∧ lst n C i ≤ 7) := by
  have he := eL_bd h i
  unfold lst
  split
  · rename_i hc
    rcases h (i - 1) with e | ⟨_, h2, h3, _⟩
    · rw [e] at hc; simp at hc
    · omega
  · exact he
theorem inv_turn (A : Nat → Int) (n : Nat) : ∀ t, Inv n t (turn A n t)
  | 0 => fun i => by
    show c0 A n i = _ ∨ _
    unfold turn c0
    split
    · rename_i h; right; exact ⟨rfl, by show ((0 : Nat) : Int) < A i; omega, h.2.2, h.1⟩
    · exact .inl rfl
  | t + 1 => fun i => by
    have ih := inv_turn A n t
    show stepC n (turn A n t) i = _ ∨ ((stepC n (turn A n t) i).1 = 13 ∧ _ < (stepC n (turn A n t) i).2 ∧ (stepC n (turn A n t) i).2 ≤ 7 ∧ i < n)
    have hl := lst_bd ih i
    unfold stepC
    by_cases hc : i < n ∧ (turn A n t i).1 = 13
    · rw [if_pos hc]
      by_cases h7 : lst n (turn A n t) i = 7
      · rw [if_pos h7]; exact .inl rfl
      · rw [if_neg h7]
        right
        refine ⟨rfl, ?_, ?_, hc.1⟩
        · show ((t + 1 : Nat) : Int) < lst n (turn A n t) i + 1; omega
        · show lst n (turn A n t) i + 1 ≤ 7; omega
    · rw [if_neg hc]
      rcases ih i with e | ⟨h1, _, _, h4⟩
      · exact .inl e
      · exact absurd ⟨h4, h1⟩ hc
theorem dry (A : Nat → Int) (n i : Nat) : turn A n 7 i = (0, 0) := by
  rcases inv_turn A n 7 i with h | ⟨_, h2, h3, _⟩
  · exact h
  · omega
def flat (C : Row) : Nat → Int := fun j => if j % 2 = 0 then (C (j / 2)).1 else (C (j / 2)).2
theorem flat_0 (C : Row) (i : Nat) : flat C (2 * i) = (C i).1 := by unfold flat; rw [if_pos (by omega), show 2 * i / 2 = i from by omega]
theorem flat_1 (C : Row) (i : Nat) : flat C (2 * i + 1) = (C i).2 := by unfold flat; rw [if_neg (by omega), show (2 * i + 1) / 2 = i from by omega]
theorem flat_bd {n t : Nat} {C : Row} (h : Inv n t C) (j : Nat) : 0 ≤ flat C j ∧ flat C j ≤ 255 := by
  unfold flat
  rcases h (j / 2) with e | ⟨h1, h2, h3, _⟩
  · rw [e]; split <;> decide
  · split
    · rw [h1]; decide
    · omega
/-- The first cells of a row. -/
def cut (R : Nat → Int) (i : Nat) : Nat → Int := fun j => if j < 2 * i then R j else 0
theorem cut_put (R : Nat → Int) (i : Nat) {k l : Int} (hk : k = R (2 * i)) (hl : l = R (2 * i + 1)) : (fun m => if m = 2 * i + 1 then l else if m = 2 * i then k else cut R i m) = cut R (i + 1) := by
  funext m
  unfold cut
  by_cases h1 : m = 2 * i + 1
  · rw [if_pos h1, if_pos (by omega), h1, hl]
  · rw [if_neg h1]
    by_cases h0 : m = 2 * i
    · rw [if_pos h0, if_pos (by omega), h0, hk]
    · rw [if_neg h0]
      by_cases h : m < 2 * i
      · rw [if_pos h, if_pos (by omega)]
      · rw [if_neg h, if_neg (by omega)]
theorem cut_0 (R : Nat → Int) : cut R 0 = fun _ => 0 := by funext m; unfold cut; rw [if_neg (by omega)]
theorem cut_all {n t : Nat} {C : Row} (h : Inv n t C) : cut (flat C) n = flat C := by
  funext j
  unfold cut
  split
  · rfl
  · rename_i hj
    rcases h (j / 2) with e | ⟨_, _, _, h4⟩
    · unfold flat; rw [e]; split <;> rfl
    · omega

/-! ### What the symbols stand for -/
def b8 : Int × Int := (0, 255)
def nOf (len : Int) : Nat := (min 40 len).toNat
def pro (zs : List Int) (A : Nat → Int) (off len cap : Nat) : Val := ⟨fun i => if i = 91 then off else if i = 1 then len else if i = 90 then cap else 0, fun _ => false, fun j => if j = 0 then A else if j = 100 then flat (turn A (nOf len) 0) else if j = 101 then flat (turn A (nOf len) 1) else flat (turn A (nOf len) (j - 1)), fun _ => ByteArray.empty⟩
def bsF : Bds where
  v := [(0, 0), (0, 140737488355327)]
  a := List.replicate 102 b8
  J := fun ρ => (∃ t, ρ.a 100 = flat (turn (ρ.a 0) (nOf (ρ.i 1)) t) ∧ ρ.a 101 = flat (turn (ρ.a 0) (nOf (ρ.i 1)) (t + 1))) ∧ (∀ t, t < 9 → ρ.a (1 + t) = flat (turn (ρ.a 0) (nOf (ρ.i 1)) t)) ∧ Sx.PosIn ks (ρ.a 0)
theorem holdF {zs : List Int} {A : Nat → Int} {off len cap : Nat} (hl : len ≤ M) (hA : Sx.PosIn ks A) : bsF.hold (pro zs A off len cap) := by
  have hM : M = 140737488355327 := rfl
  refine ⟨fun i l u h => ?_, fun i l u h n => ?_, ⟨0, rfl, rfl⟩, fun t ht => ?_, hA⟩
  · rcases i with _ | _ | i
    · simp [bsF] at h; obtain ⟨rfl, rfl⟩ := h; exact ⟨Int.le_refl _, Int.le_refl _⟩
    · simp [bsF] at h; obtain ⟨rfl, rfl⟩ := h; show 0 ≤ (len : Int) ∧ (len : Int) ≤ _; omega
    · simp [bsF] at h
  · have hlu := (List.getElem?_replicate (n := 102) (a := b8) (i := i)).symm.trans h
    split at hlu
    · simp only [b8, Option.some.injEq, Prod.mk.injEq] at hlu
      obtain ⟨rfl, rfl⟩ := hlu
      simp only [pro]
      split
      · have := hA n
        rw [show n % ks.length = 0 from by show n % 1 = 0; omega] at this
        exact this
      · split
        · exact flat_bd (inv_turn A (nOf len) 0) n
        · split
          · exact flat_bd (inv_turn A (nOf len) 1) n
          · exact flat_bd (inv_turn A (nOf len) (i - 1)) n
    · cases hlu
  · show (if 1 + t = 0 then A else if 1 + t = 100 then _ else if 1 + t = 101 then _ else flat (turn A (nOf ((pro zs A off len cap).i 1)) (1 + t - 1))) = _
    rw [if_neg (by omega), if_neg (by omega), if_neg (by omega), show 1 + t - 1 = t from by omega]
    rfl
theorem sameF (ρ v : Val) (hs : Sx.SameB ⟨200, [], [], []⟩ v ρ) (h : bsF.hold ρ) : bsF.hold v := Sx.hold_same hs (by decide) (by decide) (fun hJ => by
  have h0 := Sx.same_a (M := 200) (j := 0) hs (by decide)
  have h1 := Sx.same_i (M := 200) (j := 1) hs (by omega)
  refine ⟨?_, fun t ht => ?_, by rw [h0]; exact hJ.2.2⟩
  · rw [Sx.same_a (M := 200) (j := 100) hs (by decide), Sx.same_a (M := 200) (j := 101) hs (by decide), h0, h1]; exact hJ.1
  · rw [Sx.same_a (M := 200) (j := 1 + t) hs (by omega), h0, h1]
    exact hJ.2.1 t ht) h
def nn (ρ : Val) : Nat := nOf (ρ.i 1)
def tn (ρ : Val) (t : Nat) : Row := turn (ρ.a 0) (nn ρ) t
theorem av_t {ρ : Val} (h : bsF.hold ρ) {t : Nat} (ht : t < 9) : ρ.a (1 + t) = flat (tn ρ t) := h.2.2.2.1 t ht
theorem nn_I {ρ : Val} (h : bsF.hold ρ) : min 40 (ρ.i 1) = (nn ρ : Int) := by
  have := (h.1 1 0 140737488355327 rfl).1
  unfold nn nOf
  omega

/-! ### The first loop -/
def w100 : Sx.E := .var 200
def nE : Sx.E := .bin (.gi 1) (.lit 40) (.var 1)
def one : Sx.E := .bin .add w100 (.lit 1)
def ltn : Sx.E := .bin .lt w100 nE
def pre0 : List (Sx.E × Bool) := [(.bin .lt (.lit 0) nE, true)]
def rowB (x : Sx.E) (n : Sx.E) : Sx.Blk := .arr x [.u8, .u8] (.lit 0) (.bin .mul n (.lit 2)) 23 4 []
def putX (k l : Sx.E) : Sx.E := .upd (.upd (.av 200) (.bin .mul w100 (.lit 2)) k) (.bin .add (.bin .mul w100 (.lit 2)) (.lit 1)) l
def putF (k l : Sx.E) : Sx.E := .upd (.upd (.bl false) (.lit 0) k) (.lit 1) l
def fst (k l : Sx.E) : Sx.Sub := { i := [(200, .lit 1)], a := [(200, putF k l)] }
def nxt (k l : Sx.E) : Sx.Sub := { i := [(200, one)], a := [(200, putX k l)] }
def inR (i : Sx.E) : Sx.E := .un .not (.bin .or (.bin .lt (.bin .rd (.av 0) i) (.lit 1)) (.bin .lt (.lit 7) (.bin .rd (.av 0) i)))
def k0 (i : Sx.E) : Sx.E := .ite (inR i) (.lit 13) (.lit 0)
def l0 (i : Sx.E) : Sx.E := .ite (inR i) (.bin .rd (.av 0) i) (.lit 0)
def sp0 (J ex : Nat) : Sx.LSpec where
  M := 200
  tpl := [(4, .c (.int .i64 w100)), (3, .c (.slice J (.lit 0) w100 (.opn 0)))]
  tplB := [(J, rowB (.av 200) w100)]
  pre := pre0
  ini := fst (k0 (.lit 0)) (l0 (.lit 0))
  hfs := [(.bin .lt w100 (.lit 1), false), (.bin .lt nE w100, false)]
  d := [J]
  rn := [(3, J, [.u8, .u8])]
  fg := 5 :: (List.range 28).map (· + 19)
  ways := [{ tests := [(ltn, true)], σ := nxt (k0 w100) (l0 w100) },
    { tests := [(ltn, false)], ex := .exit ex, kd := .out, σ := { i := [(200, w100)], a := [(200, .av 200)] }, fin := { i := [(200, nE)], a := [(200, .av 1)] } }]
structure At (ρ v : Val) (R : Nat → Int) (i : Nat) : Prop where
  e : v.i 200 = i
  ge : 1 ≤ i
  le : i ≤ nn ρ
  a : v.a 200 = cut R i
theorem nE_I {ρ : Val} (h : bsF.hold ρ) : nE.I ρ = (nn ρ : Int) := nn_I h
theorem nE_v {ρ v : Val} (h : bsF.hold ρ) (hs : Sx.SameB ⟨200, [], [], []⟩ v ρ) : nE.I v = (nn ρ : Int) := by
  show min 40 (v.i 1) = _
  rw [Sx.same_i (M := 200) (j := 1) hs (by omega)]
  exact nn_I h
theorem at_fst {ρ : Val} {R : Nat → Int} {k l : Sx.E} (hn : 0 < nn ρ) (hk : k.I ρ = R (2 * 0)) (hl : l.I ρ = R (2 * 0 + 1)) : At ρ (ρ.upd (fst k l)) R 1 :=
  ⟨rfl, Nat.le_refl _, hn, by
    rw [← cut_put R 0 hk hl, cut_0]
    rfl⟩
theorem at_nxt {ρ v : Val} {R : Nat → Int} {i : Nat} {k l : Sx.E} (h : At ρ v R i) (hi : i < nn ρ) (hk : k.I v = R (2 * i)) (hl : l.I v = R (2 * i + 1)) : At ρ (v.upd (nxt k l)) R (i + 1) :=
  ⟨by show v.i 200 + 1 = _; rw [h.e]; omega, by omega, hi, by
    rw [← cut_put R i hk hl]
    funext m
    show (if m = (v.i 200 * 2 + 1).toNat then l.I v else if m = (v.i 200 * 2).toNat then k.I v else v.a 200 m) = _
    rw [h.e, h.a, show ((i : Int) * 2 + 1).toNat = 2 * i + 1 from by omega, show ((i : Int) * 2).toNat = 2 * i from by omega]⟩
theorem cell0 {ρ : Val} {v : Val} {i : Nat} {e : Sx.E} (ha : v.a 0 = ρ.a 0) (he : e.I v = i) (hi : i < nn ρ) : (k0 e).I v = flat (tn ρ 0) (2 * i) ∧ (l0 e).I v = flat (tn ρ 0) (2 * i + 1) := by
  rw [flat_0, flat_1]
  have hr : (Sx.E.bin .rd (.av 0) e).I v = ρ.a 0 i := by show v.a 0 (e.I v).toNat = _; rw [ha, he, Int.toNat_natCast]
  have hT : (inR e).T v = decide (1 ≤ ρ.a 0 i ∧ ρ.a 0 i ≤ 7) := by
    show (!(decide ((Sx.E.bin .rd (.av 0) e).I v < 1) || decide (7 < (Sx.E.bin .rd (.av 0) e).I v))) = _
    rw [hr]
    by_cases h1 : ρ.a 0 i < 1
    · rw [decide_eq_true h1, eq_comm, Bool.true_or, Bool.not_true, decide_eq_false_iff_not]; omega
    · rw [decide_eq_false h1, Bool.false_or]
      by_cases h2 : 7 < ρ.a 0 i
      · rw [decide_eq_true h2, eq_comm, Bool.not_true, decide_eq_false_iff_not]; omega
      · rw [decide_eq_false h2, eq_comm, Bool.not_false, decide_eq_true_eq]; omega
  show (if (inR e).T v = true then (13 : Int) else 0) = (c0 (ρ.a 0) (nn ρ) i).1 ∧ (if (inR e).T v = true then (Sx.E.bin .rd (.av 0) e).I v else 0) = (c0 (ρ.a 0) (nn ρ) i).2
  rw [hT, hr]
  unfold c0
  by_cases hc : 1 ≤ ρ.a 0 i ∧ ρ.a 0 i ≤ 7
  · rw [decide_eq_true hc, if_pos rfl, if_pos rfl, if_pos ⟨hi, hc⟩]; exact ⟨rfl, rfl⟩
  · rw [decide_eq_false hc, if_neg (fun h : i < nn ρ ∧ (1 ≤ ρ.a 0 i ∧ ρ.a 0 i ≤ 7) => hc h.2)]; exact ⟨rfl, rfl⟩
theorem out_a {ρ v : Val} (hb : bsF.hold ρ) (hs : Sx.SameB ⟨200, [], [], []⟩ v ρ) {y t : Nat} (hy : ρ.a y = flat (tn ρ t)) {i : Nat} (h : At ρ v (flat (tn ρ t)) i) (hl : ltn.T v = false) : Sx.OutEq v ρ { i := [(200, w100)], a := [(200, .av 200)] } { i := [(200, nE)], a := [(200, .av y)] } := by
  have hl : decide (v.i 200 < nE.I v) = false := hl
  rw [decide_eq_false_iff_not, nE_v hb hs, h.e] at hl
  have := h.le
  have hi : i = nn ρ := by omega
  refine ⟨fun q hq => ?_, fun q hq => absurd hq (by simp), fun q hq => ?_⟩
  · simp only [List.mem_cons, List.not_mem_nil, or_false] at hq
    subst hq
    show v.i 200 = nE.I ρ
    rw [nE_I hb, h.e, hi]
  · simp only [List.mem_cons, List.not_mem_nil, or_false] at hq
    subst hq
    show v.a 200 = ρ.a y
    rw [h.a, hi, hy]
    exact cut_all (inv_turn _ _ t)
theorem pre_n {ρ : Val} (hb : bsF.hold ρ) (hp : Holds pre0 ρ) : 0 < nn ρ := by
  have h : decide (0 < nE.I ρ) = true := hp _ List.mem_cons_self
  rw [decide_eq_true_eq, nE_I hb] at h
  omega
theorem lt_n {ρ v : Val} (hb : bsF.hold ρ) (hs : Sx.SameB ⟨200, [], [], []⟩ v ρ) {i : Nat} (he : v.i 200 = i) (hl : ltn.T v = true) : i < nn ρ := by
  have hl : decide (v.i 200 < nE.I v) = true := hl
  rw [decide_eq_true_eq, nE_v hb hs, he] at hl
  omega
def mu (ρ v : Val) : Nat := ((nn ρ : Int) - v.i 200).toNat
theorem mu_nxt {ρ v : Val} {R : Nat → Int} {i : Nat} {k l : Sx.E} (h : At ρ v R i) (hi : i < nn ρ) : mu ρ (v.upd (nxt k l)) < mu ρ v := by
  have he := h.e
  show ((nn ρ : Int) - (v.i 200 + 1)).toNat < ((nn ρ : Int) - v.i 200).toNat
  omega
theorem good0 (J ex : Nat) : ∃ J' μ, Sx.Good bsF (sp0 J ex) J' μ := ⟨fun ρ v => ∃ i : Nat, At ρ v (flat (tn ρ 0)) i, mu, {
  start := fun ρ hb hp => by
    obtain ⟨h1, h2⟩ := cell0 (ρ := ρ) (v := ρ) (i := 0) (e := .lit 0) rfl rfl (pre_n hb hp)
    exact ⟨1, at_fst (pre_n hb hp) h1 h2⟩
  head := fun ρ v hb hp hs ⟨i, h⟩ => by
    have he := h.e
    have h1 := h.ge
    have h2 := h.le
    have hn := nE_v hb hs
    refine ⟨holds_cons (decide_eq_false ?_) (holds_cons (decide_eq_false ?_) holds_nil), sameF ρ v hs hb⟩
    · show ¬ v.i 200 < 1; omega
    · show ¬ nE.I v < v.i 200; omega
  next := fun j w hw hkd ρ v hb hp hs ⟨i, h⟩ ht => by
    rcases j with _ | _ | j
    · simp only [sp0, List.getElem?_cons_zero, Option.some.injEq] at hw
      subst hw
      have hi := lt_n hb hs h.e (ht _ List.mem_cons_self)
      obtain ⟨h1, h2⟩ := cell0 (ρ := ρ) (v := v) (i := i) (e := w100) (Sx.same_a (M := 200) (j := 0) hs (by decide)) h.e hi
      exact ⟨⟨i + 1, at_nxt h hi h1 h2⟩, mu_nxt h hi⟩
    · simp only [sp0, List.getElem?_cons_zero, List.getElem?_cons_succ, Option.some.injEq] at hw; subst hw; cases hkd
    · simp [sp0] at hw
  dead := fun j w hw hkd => by
    rcases j with _ | _ | j
    · simp only [sp0, List.getElem?_cons_zero, Option.some.injEq] at hw; subst hw; cases hkd
    · simp only [sp0, List.getElem?_cons_zero, List.getElem?_cons_succ, Option.some.injEq] at hw; subst hw; cases hkd
    · simp [sp0] at hw
  out := fun j w hw hkd ρ v hb hp hs ⟨i, h⟩ ht => by
    rcases j with _ | _ | j
    · simp only [sp0, List.getElem?_cons_zero, Option.some.injEq] at hw; subst hw; cases hkd
    · simp only [sp0, List.getElem?_cons_zero, List.getElem?_cons_succ, Option.some.injEq] at hw
      subst hw
      exact ⟨by simp only [sp0, Sx.selIx, Sx.E.T, if_true], out_a hb hs (y := 1) (t := 0) (av_t hb (t := 0) (by omega)) h (ht _ List.mem_cons_self)⟩
    · simp [sp0] at hw
  fin := fun ρ hb _ => by
    simp only [sp0, Sx.FactsOk, Sx.E.T, if_true]
    exact holds_nil }⟩

/-! ### A turn -/
def cK (x i : Sx.E) : Sx.E := .bin .rd x (.bin .mul i (.lit 2))
def cL (x i : Sx.E) : Sx.E := .bin .rd x (.bin .add (.bin .mul i (.lit 2)) (.lit 1))
def may (x i : Sx.E) : Sx.E := .bin (.gb 0) (cK x i) (cL x i)
def wm : Sx.E := .bin .add w100 (.lit (-1))
def lastE : Sx.E := .bin .lt w100 (.bin .add nE (.lit (-1)))
def rl (x : Sx.E) (j : Int) : Sx.E := .bin .rd x (.lit j)
def eE (x : Sx.E) : Sx.E := .ite (.bin .and lastE (.bin .eq (cK x one) (.lit 13))) (cL x one) (.lit 7)
def lE (x : Sx.E) : Sx.E := .ite (.bin .eq (cK x wm) (.lit 13)) (.bin (.gi 1) (cL x wm) (eE x)) (eE x)
def l1 (x : Sx.E) : Sx.E := .ite (.bin .and (.bin .lt (.lit 1) nE) (.bin .eq (rl x 2) (.lit 13))) (rl x 3) (.lit 7)
def hfI (x : Sx.E) : List (Sx.E × Bool) := [(.bin .lt w100 (.lit 1), false), (.bin .lt w100 (.bin .add nE (.lit 1)), true), (.bin .lt nE w100, false), (may x w100, true), (may x wm, true), (may x one, true), (.bin .lt (.lit 7) (cL x wm), false), (.bin .lt (.lit 7) (cL x one), false), (.bin .or (.un .not (.bin .eq (cK x w100) (.lit 13))) (.bin .lt (.lit 0) (cL x w100)), true)]
def ffI (x : Sx.E) : List (Sx.E × Bool) := [(.bin (.gb 0) (rl x 0) (rl x 1), true), (.bin (.gb 0) (rl x 2) (rl x 3), true), (.bin .lt (.lit 7) (rl x 3), false), (.bin .or (.un .not (.bin .eq (rl x 0) (.lit 13))) (.bin .lt (.lit 0) (rl x 1)), true)]
def f1 (x : Sx.E) : Sx.Way := { tests := [(.bin .eq (rl x 0) (.lit 13), false)], σ := fst (rl x 0) (rl x 1) }
def f2 (x : Sx.E) : Sx.Way := { tests := [(.bin .eq (rl x 0) (.lit 13), true), (.bin .eq (rl x 1) (.bin .add (l1 x) (.lit 1)), true)], σ := fst (rl x 0) (rl x 1) }
def f3 (x : Sx.E) : Sx.Way := { tests := [(.bin .eq (rl x 0) (.lit 13), true), (.bin .eq (l1 x) (.lit 7), true)], σ := fst (.lit 0) (.lit 0) }
def f4 (x : Sx.E) : Sx.Way := { tests := [(.bin .eq (rl x 0) (.lit 13), true), (.bin .eq (l1 x) (.lit 7), false)], σ := fst (.lit 13) (.bin .add (l1 x) (.lit 1)) }
def g1 (x : Sx.E) : Sx.Way := { tests := [(ltn, true), (.bin .eq (cK x w100) (.lit 13), false)], σ := nxt (cK x w100) (cL x w100) }
def g2 (x : Sx.E) : Sx.Way := { tests := [(ltn, true), (.bin .eq (cK x w100) (.lit 13), true), (.bin .eq (cL x w100) (.bin .add (lE x) (.lit 1)), true)], σ := nxt (cK x w100) (cL x w100) }
def g3 (x : Sx.E) : Sx.Way := { tests := [(ltn, true), (.bin .eq (cK x w100) (.lit 13), true), (.bin .eq (lE x) (.lit 7), true)], σ := nxt (.lit 0) (.lit 0) }
def g4 (x : Sx.E) : Sx.Way := { tests := [(ltn, true), (.bin .eq (cK x w100) (.lit 13), true), (.bin .eq (lE x) (.lit 7), false)], σ := nxt (.lit 13) (.bin .add (lE x) (.lit 1)) }
def gX (ex : Nat) : Sx.Way := { tests := [(ltn, false)], ex := .exit ex, kd := .out, σ := { i := [(200, w100)], a := [(200, .av 200)] }, fin := { i := [(200, nE)], a := [(200, .av 101)] } }
def spI (J ex : Nat) : Sx.LSpec where
  M := 200
  tpl := [(8, .c (.int .i64 w100)), (7, .c (.slice J (.lit 0) w100 (.opn 0)))]
  tplB := [(J, rowB (.av 200) w100)]
  pre := pre0
  hfs := hfI (.av 100)
  ffs := ffI (.av 100)
  d := [J]
  rn := [(7, J, [.u8, .u8])]
  fg := [9, 10, 11, 12] ++ (List.range 70).map (· + 51)
  first := [f1 (.av 100), f2 (.av 100), f3 (.av 100), f4 (.av 100)]
  ways := [g1 (.av 100), g2 (.av 100), g3 (.av 100), g4 (.av 100), gX ex]
theorem step_0 {n t : Nat} {C : Row} (h : Inv n t C) {i : Nat} (hi : i < n) (hk : (C i).1 ≠ 13 ∨ ((C i).1 = 13 ∧ (C i).2 = lst n C i + 1)) : stepC n C i = C i := by
  unfold stepC
  rcases hk with hk | ⟨hk, hl⟩
  · rw [if_neg (fun hc => hk hc.2)]
  · rcases h i with e | ⟨_, _, h3, _⟩
    · rw [e] at hk; simp at hk
    · rw [if_pos ⟨hi, hk⟩, if_neg (by omega)]
      exact Prod.ext hk.symm hl.symm
theorem step_1 {n : Nat} {C : Row} {i : Nat} (hi : i < n) (hk : (C i).1 = 13) (hl : lst n C i = 7) : stepC n C i = (0, 0) := by
  unfold stepC; rw [if_pos ⟨hi, hk⟩, if_pos hl]
theorem step_2 {n : Nat} {C : Row} {i : Nat} (hi : i < n) (hk : (C i).1 = 13) (hl : lst n C i ≠ 7) : stepC n C i = (13, lst n C i + 1) := by
  unfold stepC; rw [if_pos ⟨hi, hk⟩, if_neg hl]
section
theorem rl_I {ρ : Val} {t : Nat} (ht : ρ.a 100 = flat (tn ρ t)) (j : Nat) : (rl (.av 100) j).I ρ = flat (tn ρ t) j := by
  show ρ.a 100 ((j : Nat) : Int).toNat = _
  rw [ht, Int.toNat_natCast]
theorem c_I {ρ v : Val} {t : Nat} (ht : ρ.a 100 = flat (tn ρ t)) (hs : Sx.SameB ⟨200, [], [], []⟩ v ρ) {e : Sx.E} {i : Nat} (he : e.I v = i) : (cK (.av 100) e).I v = (tn ρ t i).1 ∧ (cL (.av 100) e).I v = (tn ρ t i).2 := by
  have ha : v.a 100 = flat (tn ρ t) := (Sx.same_a (M := 200) (j := 100) hs (by decide)).trans ht
  refine ⟨?_, ?_⟩
  · show v.a 100 (e.I v * 2).toNat = _
    rw [ha, he, show ((i : Int) * 2).toNat = 2 * i from by omega, flat_0]
  · show v.a 100 (e.I v * 2 + 1).toNat = _
    rw [ha, he, show ((i : Int) * 2 + 1).toNat = 2 * i + 1 from by omega, flat_1]
theorem rl_0 {ρ : Val} {t : Nat} (ht : ρ.a 100 = flat (tn ρ t)) : (rl (.av 100) 0).I ρ = (tn ρ t 0).1 := (rl_I ht 0).trans (flat_0 _ 0)
theorem rl_1 {ρ : Val} {t : Nat} (ht : ρ.a 100 = flat (tn ρ t)) : (rl (.av 100) 1).I ρ = (tn ρ t 0).2 := (rl_I ht 1).trans (flat_1 _ 0)
theorem rl_2 {ρ : Val} {t : Nat} (ht : ρ.a 100 = flat (tn ρ t)) : (rl (.av 100) 2).I ρ = (tn ρ t 1).1 := (rl_I ht 2).trans (flat_0 _ 1)
theorem rl_3 {ρ : Val} {t : Nat} (ht : ρ.a 100 = flat (tn ρ t)) : (rl (.av 100) 3).I ρ = (tn ρ t 1).2 := (rl_I ht 3).trans (flat_1 _ 1)
variable {ρ v : Val} {t : Nat} (hb : bsF.hold ρ) (ht : ρ.a 100 = flat (tn ρ t))
include hb ht
theorem l1_I : (l1 (.av 100)).I ρ = lst (nn ρ) (tn ρ t) 0 := by
  show (if (decide (1 < nE.I ρ) && ((rl (.av 100) 2).I ρ == 13)) = true then (rl (.av 100) 3).I ρ else 7) = _
  rw [nE_I hb, rl_2 ht, rl_3 ht]
  unfold lst eL
  rw [if_neg (show ¬ (0 < 0 ∧ (tn ρ t (0 - 1)).1 = 13) from fun h => absurd h.1 (Nat.lt_irrefl 0))]
  by_cases hc : 0 + 1 < nn ρ ∧ (tn ρ t (0 + 1)).1 = 13
  · rw [if_pos hc, if_pos (by rw [Bool.and_eq_true, decide_eq_true_eq, beq_iff_eq]; exact ⟨by omega, hc.2⟩)]
  · rw [if_neg hc, if_neg (by rw [Bool.and_eq_true, decide_eq_true_eq, beq_iff_eq]; exact fun h => hc ⟨by omega, h.2⟩)]
variable (hs : Sx.SameB ⟨200, [], [], []⟩ v ρ)
include hs
theorem lE_I {i : Nat} (he : v.i 200 = i) (h1 : 1 ≤ i) : (lE (.av 100)).I v = lst (nn ρ) (tn ρ t) i := by
  have hw := c_I ht hs (e := wm) (i := i - 1) (by show v.i 200 + -1 = _; omega)
  have ho := c_I ht hs (e := one) (i := i + 1) (by show v.i 200 + 1 = _; omega)
  have hE : (eE (.av 100)).I v = eL (nn ρ) (tn ρ t) i := by
    show (if (decide (v.i 200 < nE.I v + -1) && ((cK (.av 100) one).I v == 13)) = true then (cL (.av 100) one).I v else 7) = _
    rw [nE_v hb hs, ho.1, ho.2, he]
    unfold eL
    by_cases hc : i + 1 < nn ρ ∧ (tn ρ t (i + 1)).1 = 13
    · rw [if_pos hc, if_pos (by rw [Bool.and_eq_true, decide_eq_true_eq, beq_iff_eq]; exact ⟨by omega, hc.2⟩)]
    · rw [if_neg hc, if_neg (by rw [Bool.and_eq_true, decide_eq_true_eq, beq_iff_eq]; exact fun h => hc ⟨by omega, h.2⟩)]
  show (if ((cK (.av 100) wm).I v == 13) = true then min ((cL (.av 100) wm).I v) ((eE (.av 100)).I v) else (eE (.av 100)).I v) = _
  rw [hw.1, hw.2, hE]
  unfold lst
  by_cases hc : (tn ρ t (i - 1)).1 = 13
  · rw [if_pos (by rw [beq_iff_eq]; exact hc), if_pos ⟨by omega, hc⟩]
  · rw [if_neg (by rw [beq_iff_eq]; exact hc), if_neg (fun h => hc h.2)]
end
theorem may_c {n t : Nat} {C : Row} (h : Inv n t C) (i : Nat) : K.may (C i).1 (C i).2 = true := by
  rcases h i with e | ⟨h1, h2, h3, _⟩
  · rw [e]; decide
  · rw [h1]
    unfold K.may
    rw [show K.levels 13 = 7 from rfl, decide_eq_true h3]
    rfl
theorem le7 {n t : Nat} {C : Row} (h : Inv n t C) (i : Nat) : (C i).2 ≤ 7 := by
  rcases h i with e | ⟨_, _, h3, _⟩
  · rw [e]; decide
  · exact h3
theorem pos13 {n t : Nat} {C : Row} (h : Inv n t C) (i : Nat) : (!((C i).1 == 13) || decide (0 < (C i).2)) = true := by
  rcases h i with e | ⟨h1, h2, _, _⟩
  · rw [e]; rfl
  · rw [decide_eq_true (by omega), Bool.or_true]
theorem tn_succ (ρ : Val) (t : Nat) : tn ρ (t + 1) = stepC (nn ρ) (tn ρ t) := rfl
theorem tn_inv (ρ : Val) (t : Nat) : Inv (nn ρ) t (tn ρ t) := inv_turn _ _ t
theorem pair_of {ρ : Val} {t i : Nat} {k l : Int} (h : stepC (nn ρ) (tn ρ t) i = (k, l)) : k = flat (tn ρ (t + 1)) (2 * i) ∧ l = flat (tn ρ (t + 1)) (2 * i + 1) := by
  rw [flat_0, flat_1, tn_succ, h]; exact ⟨rfl, rfl⟩
theorem goodI (J ex : Nat) : ∃ J' μ, Sx.GoodC bsF (spI J ex) J' μ := ⟨fun ρ v => ∃ i : Nat, At ρ v (ρ.a 101) i, mu, {
  start := fun h => absurd h (by simp [spI])
  first := fun w hw ρ hb hp hT => by
    obtain ⟨t, ht, hy⟩ := hb.2.2.1
    have ht : ρ.a 100 = flat (tn ρ t) := ht
    have hy : ρ.a 101 = flat (tn ρ (t + 1)) := hy
    rw [hy]
    have hn := pre_n hb hp
    have hI := tn_inv ρ t
    have r0 := rl_0 ht
    have r1 := rl_1 ht
    have e1 := l1_I hb ht
    simp only [spI, List.mem_cons, List.not_mem_nil, or_false] at hw
    rcases hw with rfl | rfl | rfl | rfl
    · have a1 : ((rl (.av 100) 0).I ρ == 13) = false := hT _ List.mem_cons_self
      rw [r0] at a1
      obtain ⟨h1, h2⟩ := pair_of (k := (tn ρ t 0).1) (l := (tn ρ t 0).2) (step_0 hI hn (.inl (by simpa using a1)))
      exact ⟨1, at_fst hn (r0.trans h1) (r1.trans h2)⟩
    · have a1 : ((rl (.av 100) 0).I ρ == 13) = true := hT _ List.mem_cons_self
      have a2 : ((rl (.av 100) 1).I ρ == (l1 (.av 100)).I ρ + 1) = true := hT _ (List.mem_cons_of_mem _ List.mem_cons_self)
      rw [r0, beq_iff_eq] at a1
      rw [r1, e1, beq_iff_eq] at a2
      obtain ⟨h1, h2⟩ := pair_of (k := (tn ρ t 0).1) (l := (tn ρ t 0).2) (step_0 hI hn (.inr ⟨a1, a2⟩))
      exact ⟨1, at_fst hn (r0.trans h1) (r1.trans h2)⟩
    · have a1 : ((rl (.av 100) 0).I ρ == 13) = true := hT _ List.mem_cons_self
      have a2 : ((l1 (.av 100)).I ρ == 7) = true := hT _ (List.mem_cons_of_mem _ List.mem_cons_self)
      rw [r0, beq_iff_eq] at a1
      rw [e1, beq_iff_eq] at a2
      obtain ⟨h1, h2⟩ := pair_of (step_1 hn a1 a2)
      exact ⟨1, at_fst hn h1 h2⟩
    · have a1 : ((rl (.av 100) 0).I ρ == 13) = true := hT _ List.mem_cons_self
      have a2 : ((l1 (.av 100)).I ρ == 7) = false := hT _ (List.mem_cons_of_mem _ List.mem_cons_self)
      rw [r0, beq_iff_eq] at a1
      rw [e1] at a2
      obtain ⟨h1, h2⟩ := pair_of (step_2 hn a1 (by simpa using a2))
      exact ⟨1, at_fst hn h1 (by show (l1 (.av 100)).I ρ + 1 = _; rw [e1]; exact h2)⟩
  ffs := fun _ ρ hb => by
    obtain ⟨t, ht, hy⟩ := hb.2.2.1
    have ht : ρ.a 100 = flat (tn ρ t) := ht
    have hI := tn_inv ρ t
    refine holds_cons ?_ (holds_cons ?_ (holds_cons ?_ (holds_cons ?_ holds_nil)))
    · show K.may ((rl (.av 100) 0).I ρ) ((rl (.av 100) 1).I ρ) = true
      rw [rl_0 ht, rl_1 ht]; exact may_c hI 0
    · show K.may ((rl (.av 100) 2).I ρ) ((rl (.av 100) 3).I ρ) = true
      rw [rl_2 ht, rl_3 ht]; exact may_c hI 1
    · show decide (7 < (rl (.av 100) 3).I ρ) = false
      rw [rl_3 ht, decide_eq_false_iff_not]; have := le7 hI 1; omega
    · show (!((rl (.av 100) 0).I ρ == 13) || decide (0 < (rl (.av 100) 1).I ρ)) = true
      rw [rl_0 ht, rl_1 ht]; exact pos13 hI 0
  head := fun ρ v hb hp hs ⟨i, h⟩ => by
    obtain ⟨t, ht, hy⟩ := hb.2.2.1
    have ht : ρ.a 100 = flat (tn ρ t) := ht
    have hI := tn_inv ρ t
    have he := h.e
    have h1 := h.ge
    have h2 := h.le
    have hn := nE_v hb hs
    have hc := c_I ht hs (e := w100) he
    have hw := c_I ht hs (e := wm) (i := i - 1) (by show v.i 200 + -1 = _; omega)
    have ho := c_I ht hs (e := one) (i := i + 1) (by show v.i 200 + 1 = _; omega)
    refine ⟨holds_cons (decide_eq_false ?_) (holds_cons (decide_eq_true ?_) (holds_cons (decide_eq_false ?_) (holds_cons ?_ (holds_cons ?_ (holds_cons ?_ (holds_cons (decide_eq_false ?_) (holds_cons (decide_eq_false ?_) (holds_cons ?_ holds_nil)))))))), sameF ρ v hs hb⟩
    · show ¬ v.i 200 < 1; omega
    · show v.i 200 < nE.I v + 1; omega
    · show ¬ nE.I v < v.i 200; omega
    · show K.may ((cK (.av 100) w100).I v) ((cL (.av 100) w100).I v) = true
      rw [hc.1, hc.2]; exact may_c hI i
    · show K.may ((cK (.av 100) wm).I v) ((cL (.av 100) wm).I v) = true
      rw [hw.1, hw.2]; exact may_c hI _
    · show K.may ((cK (.av 100) one).I v) ((cL (.av 100) one).I v) = true
      rw [ho.1, ho.2]; exact may_c hI _
    · show ¬ 7 < (cL (.av 100) wm).I v
      rw [hw.2]; have := le7 hI (i - 1); omega
    · show ¬ 7 < (cL (.av 100) one).I v
      rw [ho.2]; have := le7 hI (i + 1); omega
    · show (!((cK (.av 100) w100).I v == 13) || decide (0 < (cL (.av 100) w100).I v)) = true
      rw [hc.1, hc.2]; exact pos13 hI i
  next := fun j w hw hkd ρ v hb hp hs ⟨i, h⟩ hT => by
    obtain ⟨t, ht, hy⟩ := hb.2.2.1
    have ht : ρ.a 100 = flat (tn ρ t) := ht
    have hy : ρ.a 101 = flat (tn ρ (t + 1)) := hy
    rw [hy] at h ⊢
    have hI := tn_inv ρ t
    have hc := c_I ht hs (e := w100) h.e
    have e1 := lE_I hb ht hs h.e h.ge
    rcases j with _ | _ | _ | _ | _ | j
    · simp only [spI, List.getElem?_cons_zero, Option.some.injEq] at hw
      subst hw
      have hi := lt_n hb hs h.e (hT _ List.mem_cons_self)
      have a1 : ((cK (.av 100) w100).I v == 13) = false := hT _ (List.mem_cons_of_mem _ List.mem_cons_self)
      rw [hc.1] at a1
      obtain ⟨h1, h2⟩ := pair_of (k := (tn ρ t i).1) (l := (tn ρ t i).2) (step_0 hI hi (.inl (by simpa using a1)))
      exact ⟨⟨i + 1, at_nxt h hi (hc.1.trans h1) (hc.2.trans h2)⟩, mu_nxt h hi⟩
    · simp only [spI, List.getElem?_cons_zero, List.getElem?_cons_succ, Option.some.injEq] at hw
      subst hw
      have hi := lt_n hb hs h.e (hT _ List.mem_cons_self)
      have a1 : ((cK (.av 100) w100).I v == 13) = true := hT _ (List.mem_cons_of_mem _ List.mem_cons_self)
      have a2 : ((cL (.av 100) w100).I v == (lE (.av 100)).I v + 1) = true := hT _ (List.mem_cons_of_mem _ (List.mem_cons_of_mem _ List.mem_cons_self))
      rw [hc.1, beq_iff_eq] at a1
      rw [hc.2, e1, beq_iff_eq] at a2
      obtain ⟨h1, h2⟩ := pair_of (k := (tn ρ t i).1) (l := (tn ρ t i).2) (step_0 hI hi (.inr ⟨a1, a2⟩))
      exact ⟨⟨i + 1, at_nxt h hi (hc.1.trans h1) (hc.2.trans h2)⟩, mu_nxt h hi⟩
    · simp only [spI, List.getElem?_cons_zero, List.getElem?_cons_succ, Option.some.injEq] at hw
      subst hw
      have hi := lt_n hb hs h.e (hT _ List.mem_cons_self)
      have a1 : ((cK (.av 100) w100).I v == 13) = true := hT _ (List.mem_cons_of_mem _ List.mem_cons_self)
      have a2 : ((lE (.av 100)).I v == 7) = true := hT _ (List.mem_cons_of_mem _ (List.mem_cons_of_mem _ List.mem_cons_self))
      rw [hc.1, beq_iff_eq] at a1
      rw [e1, beq_iff_eq] at a2
      obtain ⟨h1, h2⟩ := pair_of (step_1 hi a1 a2)
      exact ⟨⟨i + 1, at_nxt h hi h1 h2⟩, mu_nxt h hi⟩
    · simp only [spI, List.getElem?_cons_zero, List.getElem?_cons_succ, Option.some.injEq] at hw
      subst hw
      have hi := lt_n hb hs h.e (hT _ List.mem_cons_self)
      have a1 : ((cK (.av 100) w100).I v == 13) = true := hT _ (List.mem_cons_of_mem _ List.mem_cons_self)
      have a2 : ((lE (.av 100)).I v == 7) = false := hT _ (List.mem_cons_of_mem _ (List.mem_cons_of_mem _ List.mem_cons_self))
      rw [hc.1, beq_iff_eq] at a1
      rw [e1] at a2
      obtain ⟨h1, h2⟩ := pair_of (step_2 hi a1 (by simpa using a2))
      exact ⟨⟨i + 1, at_nxt h hi h1 (by show (lE (.av 100)).I v + 1 = _; rw [e1]; exact h2)⟩, mu_nxt h hi⟩
    · simp only [spI, List.getElem?_cons_zero, List.getElem?_cons_succ, Option.some.injEq] at hw; subst hw; cases hkd
    · simp [spI] at hw
  dead := fun j w hw hkd => by
    rcases j with _ | _ | _ | _ | _ | j
    all_goals simp only [spI, List.getElem?_cons_zero, List.getElem?_cons_succ, Option.some.injEq, List.getElem?_nil, reduceCtorEq] at hw
    all_goals subst hw; cases hkd
  out := fun j w hw hkd ρ v hb hp hs ⟨i, h⟩ hT => by
    rcases j with _ | _ | _ | _ | _ | j
    all_goals simp only [spI, List.getElem?_cons_zero, List.getElem?_cons_succ, Option.some.injEq, List.getElem?_nil, reduceCtorEq] at hw
    · subst hw; cases hkd
    · subst hw; cases hkd
    · subst hw; cases hkd
    · subst hw; cases hkd
    · subst hw
      obtain ⟨t, ht, hy⟩ := hb.2.2.1
      have hy : ρ.a 101 = flat (tn ρ (t + 1)) := hy
      rw [hy] at h
      exact ⟨rfl, out_a hb hs (y := 101) (t := t + 1) hy h (hT _ List.mem_cons_self)⟩
  fin := fun ρ hb _ => by
    simp only [spI, g1, g2, g3, g4, gX, Sx.FactsOk, Sx.E.T, if_true]
    exact holds_nil }⟩

/-! ### The turns -/
def t100 : Sx.E := .var 100
def rowT (e : Sx.E) : Nat → Nat → Sx.E
  | 0, _ => .bl false
  | n + 1, k => .ite (.bin .eq e (.lit k)) (.av (1 + k)) (rowT e n (k + 1))
theorem rowT_A (e : Sx.E) (v : Val) : ∀ n k j, e.I v = ((k + j : Nat) : Int) → j < n → (rowT e n k).A v = v.a (1 + (k + j))
  | 0, _, _, _, h => absurd h (by omega)
  | n + 1, k, j, he, h => by
    show (if (e.I v == (k : Int)) = true then v.a (1 + k) else (rowT e n (k + 1)).A v) = _
    by_cases hj : j = 0
    · subst hj; rw [if_pos (by rw [he, beq_iff_eq]; omega)]; rfl
    · rw [if_neg (by rw [he, beq_iff_eq]; omega), rowT_A e v n (k + 1) (j - 1) (by rw [he]; omega) (by omega), show k + 1 + (j - 1) = k + j from by omega]
def lt7 : Sx.E := .bin .lt t100 (.lit 7)
def spT (J ex : Nat) : Sx.LSpec where
  M := 100
  tpl := [(6, .c (.int .i64 t100)), (3, .c (.slice J (.lit 0) nE (.opn 0)))]
  tplB := [(J, rowB (.av 100) nE)]
  pre := pre0
  ini := { i := [(100, .lit 0)], a := [(100, .av 1), (101, .av 2)] }
  hfs := [(.bin .lt t100 (.lit 0), false), (.bin .lt (.lit 7) t100, false)]
  d := [J]
  rn := [(3, J, [])]
  fg := [7, 8, 9, 10, 11, 12] ++ (List.range 75).map (· + 47)
  ways := [{ tests := [(lt7, true)], σ := { i := [(100, .bin .add t100 (.lit 1))], a := [(100, .av 101), (101, rowT (.bin .add t100 (.lit 2)) 9 0)] } },
    { tests := [(lt7, false)], ex := .exit ex, kd := .out, σ := { i := [(100, t100)], a := [(100, .av 100)] }, fin := { i := [(100, .lit 7)], a := [(100, .av 8)] } }]
structure AtT (ρ v : Val) (t : Nat) : Prop where
  e : v.i 100 = t
  le : t ≤ 7
  x : v.a 100 = flat (tn ρ t)
  y : v.a 101 = flat (tn ρ (t + 1))
theorem holdT {ρ v : Val} (hb : bsF.hold ρ) (hs : Sx.SameB ⟨100, [], [], []⟩ v ρ) {t : Nat} (h : AtT ρ v t) : bsF.hold v := by
  have h0 := Sx.same_a (M := 100) (j := 0) hs (by decide)
  have h1 := Sx.same_i (M := 100) (j := 1) hs (by omega)
  refine ⟨fun i l u hl => ?_, fun i l u hl n => ?_, ⟨t, ?_, ?_⟩, fun t' ht' => ?_, by rw [h0]; exact hb.2.2.2.2⟩
  · have hi : i < 100 := by
      refine Nat.lt_of_not_le fun hc => ?_
      rw [List.getElem?_eq_none (by show 2 ≤ i; omega)] at hl; cases hl
    rw [Sx.same_i (M := 100) hs hi]; exact hb.1 i l u hl
  · by_cases hi : i < 100
    · rw [Sx.same_a (M := 100) hs hi]; exact hb.2.1 i l u hl n
    · have hlu := (List.getElem?_replicate (n := 102) (a := b8) (i := i)).symm.trans hl
      split at hlu
      · simp only [b8, Option.some.injEq, Prod.mk.injEq] at hlu
        obtain ⟨rfl, rfl⟩ := hlu
        have : i = 100 ∨ i = 101 := by omega
        rcases this with rfl | rfl
        · rw [h.x]; exact flat_bd (inv_turn _ _ t) n
        · rw [h.y]; exact flat_bd (inv_turn _ _ (t + 1)) n
      · cases hlu
  · rw [h.x, h0, h1]; rfl
  · rw [h.y, h0, h1]; rfl
  · rw [Sx.same_a (M := 100) (j := 1 + t') hs (by omega), h0, h1]; exact hb.2.2.2.1 t' ht'
theorem goodT (J ex : Nat) : ∃ J' μ, Sx.Good bsF (spT J ex) J' μ := ⟨fun ρ v => ∃ t : Nat, AtT ρ v t, fun ρ v => ((7 : Int) - v.i 100).toNat, {
  start := fun ρ hb hp => ⟨0, rfl, by omega, av_t hb (t := 0) (by omega), av_t hb (t := 1) (by omega)⟩
  head := fun ρ v hb hp hs ⟨t, h⟩ => by
    have he := h.e
    have hl := h.le
    refine ⟨holds_cons (decide_eq_false ?_) (holds_cons (decide_eq_false ?_) holds_nil), holdT hb hs h⟩
    · show ¬ v.i 100 < 0; omega
    · show ¬ 7 < v.i 100; omega
  next := fun j w hw hkd ρ v hb hp hs ⟨t, h⟩ ht => by
    rcases j with _ | _ | j
    · simp only [spT, List.getElem?_cons_zero, Option.some.injEq] at hw
      subst hw
      have a1 : decide (v.i 100 < 7) = true := ht _ List.mem_cons_self
      have he := h.e
      rw [decide_eq_true_eq, he] at a1
      refine ⟨⟨t + 1, ?_, by omega, h.y, ?_⟩, ?_⟩
      · show v.i 100 + 1 = _; omega
      · show (rowT (.bin .add t100 (.lit 2)) 9 0).A v = _
        rw [rowT_A _ v 9 0 (t + 2) (by show v.i 100 + 2 = _; omega) (by omega), Nat.zero_add, Sx.same_a (M := 100) (j := 1 + (t + 2)) hs (by omega)]
        exact av_t hb (by omega)
      · show ((7 : Int) - (v.i 100 + 1)).toNat < ((7 : Int) - v.i 100).toNat; omega
    · simp only [spT, List.getElem?_cons_zero, List.getElem?_cons_succ, Option.some.injEq] at hw; subst hw; cases hkd
    · simp [spT] at hw
  dead := fun j w hw hkd => by
    rcases j with _ | _ | j
    · simp only [spT, List.getElem?_cons_zero, Option.some.injEq] at hw; subst hw; cases hkd
    · simp only [spT, List.getElem?_cons_zero, List.getElem?_cons_succ, Option.some.injEq] at hw; subst hw; cases hkd
    · simp [spT] at hw
  out := fun j w hw hkd ρ v hb hp hs ⟨t, h⟩ ht => by
    rcases j with _ | _ | j
    · simp only [spT, List.getElem?_cons_zero, Option.some.injEq] at hw; subst hw; cases hkd
    · simp only [spT, List.getElem?_cons_zero, List.getElem?_cons_succ, Option.some.injEq] at hw
      subst hw
      have a1 : decide (v.i 100 < 7) = false := ht _ List.mem_cons_self
      have he := h.e
      have hl := h.le
      rw [decide_eq_false_iff_not, he] at a1
      have h7 : t = 7 := by omega
      refine ⟨by simp only [spT, Sx.selIx, Sx.E.T, if_true], ⟨fun q hq => ?_, fun q hq => absurd hq (by simp), fun q hq => ?_⟩⟩
      · simp only [List.mem_cons, List.not_mem_nil, or_false] at hq
        subst hq
        show v.i 100 = 7; omega
      · simp only [List.mem_cons, List.not_mem_nil, or_false] at hq
        subst hq
        show v.a 100 = ρ.a 8
        rw [h.x, h7]; exact (av_t hb (t := 7) (by omega)).symm
    · simp [spT] at hw
  fin := fun ρ hb _ => by
    simp only [spT, Sx.FactsOk, Sx.E.T, if_true]
    exact holds_nil }⟩

/-! ### All are dry -/
def spL (ex : Nat) : Sx.LSpec where
  M := 200
  tpl := [(13, .c (.int .i64 w100))]
  ini := { i := [(200, .lit 0)] }
  pre := pre0
  hfs := [(.bin .lt w100 (.lit 0), false), (.bin .lt nE w100, false), (.bin .eq (cK (.av 8) w100) (.lit 0), true), (.bin .eq (cL (.av 8) w100) (.lit 0), true)]
  fg := (List.range 12).map (· + 122)
  ways := [{ tests := [(ltn, true)], σ := { i := [(200, one)] } }, { tests := [(ltn, false)], ex := .exit ex, kd := .out, σ := { i := [(200, w100)] }, fin := { i := [(200, nE)] } }]
theorem goodL (ex : Nat) : ∃ J' μ, Sx.Good bsF (spL ex) J' μ := ⟨fun ρ v => ∃ i : Nat, v.i 200 = i ∧ i ≤ nn ρ, mu, {
  start := fun ρ hb hp => ⟨0, rfl, by omega⟩
  head := fun ρ v hb hp hs ⟨i, he, hle⟩ => by
    have hn := nE_v hb hs
    have ha : v.a 8 = flat (tn ρ 7) := (Sx.same_a (M := 200) (j := 8) hs (by decide)).trans (av_t hb (t := 7) (by omega))
    have hd := dry (ρ.a 0) (nn ρ) i
    refine ⟨holds_cons (decide_eq_false ?_) (holds_cons (decide_eq_false ?_) (holds_cons ?_ (holds_cons ?_ holds_nil))), sameF ρ v hs hb⟩
    · show ¬ v.i 200 < 0; omega
    · show ¬ nE.I v < v.i 200; omega
    · show (v.a 8 (v.i 200 * 2).toNat == 0) = true
      rw [ha, he, show ((i : Int) * 2).toNat = 2 * i from by omega, flat_0, show tn ρ 7 i = (0, 0) from hd]; rfl
    · show (v.a 8 (v.i 200 * 2 + 1).toNat == 0) = true
      rw [ha, he, show ((i : Int) * 2 + 1).toNat = 2 * i + 1 from by omega, flat_1, show tn ρ 7 i = (0, 0) from hd]; rfl
  next := fun j w hw hkd ρ v hb hp hs ⟨i, he, hle⟩ ht => by
    rcases j with _ | _ | j
    · simp only [spL, List.getElem?_cons_zero, Option.some.injEq] at hw
      subst hw
      have hi := lt_n hb hs he (ht _ List.mem_cons_self)
      refine ⟨⟨i + 1, ?_, hi⟩, ?_⟩
      · show v.i 200 + 1 = _; omega
      · show ((nn ρ : Int) - (v.i 200 + 1)).toNat < ((nn ρ : Int) - v.i 200).toNat; omega
    · simp only [spL, List.getElem?_cons_zero, List.getElem?_cons_succ, Option.some.injEq] at hw; subst hw; cases hkd
    · simp [spL] at hw
  dead := fun j w hw hkd => by
    rcases j with _ | _ | j
    · simp only [spL, List.getElem?_cons_zero, Option.some.injEq] at hw; subst hw; cases hkd
    · simp only [spL, List.getElem?_cons_zero, List.getElem?_cons_succ, Option.some.injEq] at hw; subst hw; cases hkd
    · simp [spL] at hw
  out := fun j w hw hkd ρ v hb hp hs ⟨i, he, hle⟩ ht => by
    rcases j with _ | _ | j
    · simp only [spL, List.getElem?_cons_zero, Option.some.injEq] at hw; subst hw; cases hkd
    · simp only [spL, List.getElem?_cons_zero, List.getElem?_cons_succ, Option.some.injEq] at hw
      subst hw
      have hl : decide (v.i 200 < nE.I v) = false := ht _ List.mem_cons_self
      rw [decide_eq_false_iff_not, nE_v hb hs, he] at hl
      refine ⟨by simp only [spL, Sx.selIx, Sx.E.T, if_true], ⟨fun q hq => ?_, fun q hq => absurd hq (by simp), fun q hq => absurd hq (by simp)⟩⟩
      simp only [List.mem_cons, List.not_mem_nil, or_false] at hq
      subst hq
      show v.i 200 = nE.I ρ
      rw [nE_I hb]; omega
    · simp [spL] at hw
  fin := fun ρ hb _ => by
    simp only [spL, Sx.FactsOk, Sx.E.T, if_true]
    exact holds_nil }⟩

/-! ### The runs -/
noncomputable def loopsE1 : List (Nat × Code) := [(0, Sx.loopAt Try.f9 0), (1, Sx.loopAt Try.f9 2), (2, Sx.loopAt Try.f9 4), (3, Sx.loopAt Try.f9 1)]
noncomputable def tabE1 : Sx.Tab := [(0, (Sx.loopAt Try.f9 0, [{ sp := sp0 4 0 }])), (1, (Sx.loopAt Try.f9 2, [{ sp := spI 6 4 }])), (2, (Sx.loopAt Try.f9 4, [{ sp := spL 8 }])), (3, (Sx.markC [(1000, 1)] (Sx.loopAt Try.f9 1) 1000, [{ sp := spT 5 2 }]))]
noncomputable def E1 : Env := { bs := bsF, sum := Sx.tabC (Kc.sT bsF), fns := [(9, Sx.Func.marked Try.f9 [(0, 10000), (1, 3), (4, 2)]), (14, Try.f14), (25, Try.f25), (11, Try.f11), (21, Try.f21), (22, Try.f22), (28, Try.f28)], loops := Sx.runTab bsF tabE1, lk := Sx.lkOf loopsE1 }
theorem E1ok : E1.Ok Try.prog :=
  Sx.env_ok (Sx.forall_cons (Sx.fnOk_marked Try.func9 (by kernel_rfl) (by kernel_rfl) (Sx.forall_cons rfl (Sx.forall_cons rfl (Sx.forall_cons rfl Sx.forall_nil)))) (Sx.forall_cons (Sx.fnOk_plain Try.func14 (by kernel_rfl) (by kernel_rfl)) (Sx.forall_cons (Sx.fnOk_plain Try.func25 (by kernel_rfl) (by kernel_rfl)) (Sx.forall_cons (Sx.fnOk_plain Try.func11 (by kernel_rfl) (by kernel_rfl)) (Sx.forall_cons (Sx.fnOk_plain Try.func21 (by kernel_rfl) (by kernel_rfl)) (Sx.forall_cons (Sx.fnOk_plain Try.func22 (by kernel_rfl) (by kernel_rfl)) (Sx.forall_cons (Sx.fnOk_plain Try.func28 (by kernel_rfl) (by kernel_rfl)) Sx.forall_nil)))))))
    (Sx.loopsOk_mem (l := loopsE1) (tab := tabE1) rfl rfl (Sx.forall_cons (Sx.mk_eq (by kernel_rfl) rfl) (Sx.forall_cons (Sx.mk_eq (by kernel_rfl) rfl) (Sx.forall_cons (Sx.mk_eq (by kernel_rfl) rfl) (Sx.forall_cons (Sx.mk_eqM (by kernel_rfl) (Sx.forall_cons ⟨_, rfl, rfl⟩ Sx.forall_nil) rfl) Sx.forall_nil)))) (Sx.forall_cons (Sx.forall_cons (Sx.Good.alt (good0 4 0) rfl) Sx.forall_nil) (Sx.forall_cons (Sx.forall_cons (goodI 6 4) Sx.forall_nil) (Sx.forall_cons (Sx.forall_cons (Sx.Good.alt (goodL 8) rfl) Sx.forall_nil) (Sx.forall_cons (Sx.forall_cons (Sx.Good.alt (goodT 5 2) rfl) Sx.forall_nil) Sx.forall_nil)))))

noncomputable def loopsE0 : List (Nat × Code) := []
noncomputable def tabE0 : Sx.Tab := []
noncomputable def E0 : Env := { bs := bsF, sum := Sx.tabC (Kc.sT bsF), fns := [(9, Try.f9)], loops := Sx.runTab bsF tabE0, lk := Sx.lkOf loopsE0 }
theorem E0ok : E0.Ok Try.prog :=
  Sx.env_ok (Sx.forall_cons (Sx.fnOk_plain Try.func9 (by kernel_rfl) (by kernel_rfl)) Sx.forall_nil)
    (Sx.loopsOk_mem (l := loopsE0) (tab := tabE0) rfl rfl Sx.forall_nil Sx.forall_nil)

def base : List (Sx.E × Bool) := [(.bin .lt (.var 91) (.lit 0), false), (.bin .lt (.var 90) (.var 1), false), (.bin .lt (.lit 0) (.var 1), true)]
def base0 : List (Sx.E × Bool) := [(.bin .lt (.var 91) (.lit 0), false), (.bin .lt (.var 90) (.lit 0), false)]
theorem runs1 : Sx.allG E1.bs (callF Try.prog E1 (evF Try.prog E1 3000) 9 (SA.mvs args 2 Sx.rowM1) (Sx.rowS ks (Sx.mkMul (.var 1) (.lit ks.length))) (Sx.factsOf base)) = true := by kernel_rfl
theorem runsN : Sx.allG E0.bs (callF Try.prog E0 (evF Try.prog E0 3000) 9 (SA.mvs args 2 .nils) {} (Sx.factsOf base0)) = true := by kernel_rfl
theorem runsE : Sx.allG E0.bs (callF Try.prog E0 (evF Try.prog E0 3000) 9 (SA.mvs args 2 Sx.emptyM) Sx.goneS (Sx.factsOf base0)) = true := by kernel_rfl
theorem walk {vs : List Value} {zs : List Int} {s : Value} {w : World} (hv : SFit s args vs zs) (hs : SlIn w ks M s) : Calls Try.prog 9 vs.toArray w fun e w' => e = .returned (.bool true) ∧ Below w.heap.size w w' :=
  Sx.law_sl1 (args := args) (E := E1) (E0 := E0) (n := 3000) Try.checked.mixed E1ok (Sx.tabC_sound (Kc.sT_ok _)) (Sx.tabC_sure (Kc.sT_ok _)) E0ok (Sx.tabC_sound (Kc.sT_ok _)) (Sx.tabC_sure (Kc.sT_ok _)) rfl pro
    (fun zs A off len cap hz => ⟨rfl, rfl, rfl, rfl, fun j hj => absurd hj (by rw [hz.length]; simp [args, SA.kinds, PA.kinds])⟩) (fun zs A off len cap hz hl hA => holdF hl hA)
    [base] (fun zs A off len cap h0 hc _ _ => ⟨_, List.mem_cons_self, holds_cons (decide_eq_false (by show ¬ ((off : Nat) : Int) < 0; omega)) (holds_cons (decide_eq_false (by show ¬ ((cap : Nat) : Int) < ((len : Nat) : Int); omega)) (holds_cons (decide_eq_true (by show (0 : Int) < ((len : Nat) : Int); omega)) holds_nil))⟩)
    [base0] (fun zs A off cap _ _ => ⟨_, List.mem_cons_self, holds_cons (decide_eq_false (by show ¬ ((off : Nat) : Int) < 0; omega)) (holds_cons (decide_eq_false (by show ¬ ((cap : Nat) : Int) < 0; omega)) holds_nil)⟩)
    (Sx.forall_cons runs1 Sx.forall_nil) (Sx.forall_cons runsN Sx.forall_nil) (Sx.forall_cons runsE Sx.forall_nil) hv hs

set_option maxRecDepth 100000 in
theorem lifted (os : Os) (started : os.Started) (H : Type) (enc : TypeId × Value → H) :
    ReturnsInHanded {} Try.checked os 9 .any (Rows.flowDriesSpec.pre6 enc Try.prog Try.f9 Rows.flowDriesRow.domain false) (Rows.flowDriesSpec.post enc Try.prog Try.f9 false true false false) := by
  refine returnsInHanded_of_change_sized (C := Try.checked) own started (by kernel_rfl) Try.func9
    (ChangeSpec.witness6 (enc := enc) (C := Try.checked) false ⟨#[], #[.slice none 0 0], []⟩ 8 (by kernel_rfl) (by kernel_rfl) (by kernel_rfl) (by kernel_rfl)) ?_
  intro W base args0 ds gs before hval0 hW _ hsz0 _
  have hsz : (DataW.weightsEach Try.prog (Try.f9.params.toList ++ Rows.flowDriesSpec.plain.varTypes Try.prog) (ds ++ gs)).all (· ≤ reachBytes) = true := hsz0
  have hval : ∀ (j : Nat) t v, Try.f9.params[j]? = some t → args0[j]? = some v → Value.okWide Try.prog W .any base t v := hval0
  have hW' := hW
  obtain ⟨p, q, hA0, hV, rfl, hfz, hnd⟩ := hW
  have hA : DataW.TrodAll enc Try.prog W 0 (fun _ => true) true Try.f9.params.toList args0.toList ds p := hA0
  rw [Try.params9] at hA hval hsz
  obtain ⟨v0, vs0, d0, ds0, p0, q0, hargs, rfl, rfl, h0, r0⟩ := trodAll_cons hA
  obtain ⟨rfl, rfl, rfl⟩ := trodAll_nil r0
  obtain rfl : args0 = #[v0] := by cases args0; simp_all
  obtain ⟨rfl, rfl⟩ := trodVars_none hV
  have lt0 : ∀ x ∈ p0, x.block < W.heap.size := by obtain ⟨m, hm⟩ := h0; exact DataW.trod_lt m _ _ _ hm
  have hsl : SlIn W ks M v0 := Sx.slIn_of (d := 8) Try.underlying45 (by kernel_rfl) (by kernel_rfl) (by decide) (hval 0 _ v0 rfl rfl) h0 (fun el sp hd => by
    subst hd
    have := sized_slice hsz (j := 0) (t := 45) (e := 5) rfl rfl Try.underlying45
    refine Nat.not_lt.1 fun hgt => ?_
    have h2 := Nat.mul_le_mul_right (Try.prog.bytesOf 5) (show M + 1 ≤ el.length + sp.length by omega)
    have h3 : (M + 1) * Try.prog.bytesOf 5 > reachBytes := of_decide_eq_true (by kernel_rfl)
    omega)
  have g1 : SFit v0 [] [] [] := .nil
  have g0 := Sx.SFit.sl g1
  clear hA0 hval0 hsz0
  refine (walk g0 hsl).mono fun e W' ⟨he, bel⟩ => ?_
  subst he
  exact ⟨_, rfl, _, _, _, [], _, [], hW', trodAll_mk1 (shut_bool Try.underlying4 _), (trodAll_cons_mk (Below.trod laidOut (by kernel_rfl) (of_decide_eq_true (by kernel_rfl)) h0 bel lt0) trodAll_mk0), rfl, bel.frame _, fun h => by cases h⟩

theorem over : Rows.flowDriesRow.holds Try.pinned (OpenSpec.ofChange Rows.flowDriesSpec) :=
  OpenClaim.holds_of_wide 9 Try.f9 rfl rfl rfl rfl rfl rfl rfl ⟨rfl, rfl, rfl, rfl, rfl⟩ rfl rfl rfl rfl rfl (by kernel_rfl) Try.func9 (by kernel_rfl)
    (of_decide_eq_true (by kernel_rfl)) (by unfold Func.isWrapper; first | (rw [if_pos (by decide +kernel)]; kernel_rfl) | (rw [if_neg (by decide +kernel)]; exact ⟨rfl, rfl⟩))
    (fun os started H enc _ => lifted os started H enc)

/-- THE STATEMENT. -/
theorem proved : Rows.FlowDriesSaid := over
#print axioms proved
end Go.Proofs.Ytahfcfbmhdklbaa.flowDries
