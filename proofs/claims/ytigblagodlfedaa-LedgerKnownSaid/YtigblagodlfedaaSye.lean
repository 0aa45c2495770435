/- Loops that scan a row of cells: how many stand at its beginning of which something is true. -/
import Derived.Test.YtigblagodlfedaaSyd
namespace Go.Proofs.Ytigblagodlfedaa
namespace Sx
open Go.RowKit

/-! ### Plain: how many stand at the beginning -/
def lead (q : Nat → Bool) : Nat → Nat
  | 0 => 0
  | n + 1 => if lead q n = n ∧ q n = true then n + 1 else lead q n
theorem lead_le (q : Nat → Bool) : ∀ n, lead q n ≤ n
  | 0 => Nat.le_refl _
  | n + 1 => by have := lead_le q n; unfold lead; split <;> omega
theorem lead_all (q : Nat → Bool) : ∀ n i, i < lead q n → q i = true
  | 0, i, h => by simp [lead] at h
  | n + 1, i, h => by
    unfold lead at h
    split at h
    · rename_i hc
      by_cases hi : i = n
      · rw [hi]; exact hc.2
      · exact lead_all q n i (by omega)
    · exact lead_all q n i h
theorem lead_stop (q : Nat → Bool) : ∀ n, lead q n < n → q (lead q n) = false
  | 0, h => by simp [lead] at h
  | n + 1, h => by
    unfold lead at h ⊢
    split at h
    · omega
    · rename_i hc
      rw [if_neg hc]
      by_cases hn : lead q n < n
      · exact lead_stop q n hn
      · have := lead_le q n
        have e : lead q n = n := by omega
        rw [e]
        cases hq : q n with
        | false => rfl
        | true => exact absurd ⟨e, hq⟩ hc
theorem lead_uniq {q : Nat → Bool} {n k : Nat} (h1 : k ≤ n) (h2 : ∀ i, i < k → q i = true) (h3 : k < n → q k = false) : k = lead q n := by
  have a := lead_le q n
  rcases Nat.lt_trichotomy k (lead q n) with h | h | h
  · have := lead_all q n k h; rw [h3 (by omega)] at this; cases this
  · exact h
  · have := h2 _ h; rw [lead_stop q n (by omega)] at this; cases this
def cellP (j : Nat) (A : Nat → Int) (m : Nat) : Bool := K.may (A m) (A (m + 1)) && phiB1 j (A m)

/-! ### The same, in expressions -/
def rdE (i : E) : E := .bin .rd (.av 0) i
def addE (i : E) (n : Nat) : E := match n with | 0 => i | n => .bin .add i (.lit n)
def cellI (i : E) (d : Nat) : E := match i with | .lit n => .lit (n * 2 + d) | i => addE (.bin .mul i (.lit 2)) d
/-- May the cell be, and is its kind so? (Of the row's cell at an index; 'd': so many cells on.) -/
def prE (j : Nat) (i : E) (d : Nat) : E := .bin .and (.bin (.gb 0) (rdE (cellI i d)) (rdE (cellI i (d + 1)))) (.un (.fb j) (rdE (cellI i d)))
theorem cellI_I {v : Val} {i : E} {k : Nat} (hi : i.I v = k) (d : Nat) : ((cellI i d).I v).toNat = k * 2 + d := by
  have add : ∀ e : E, (addE e d).I v = e.I v + d := fun e => by
    unfold addE
    split
    · simp
    · simp only [E.I]
  unfold cellI
  split
  · simp only [E.I] at hi ⊢; omega
  · rw [add]; simp only [E.I, hi]; omega
theorem prE_T {v : Val} {i : E} {k : Nat} (hi : i.I v = k) (j d : Nat) : (prE j i d).T v = cellP j (v.a 0) (k * 2 + d) := by
  have h1 := cellI_I hi d
  have h2 := cellI_I hi (d + 1)
  simp only [prE, rdE, E.T, E.I, E.A, phiB2, cellP, h1, h2]
  rw [show k * 2 + (d + 1) = k * 2 + d + 1 from by omega]

/-! ### What holds of symbols below a number holds when others are turned -/
theorem hold_same {bs : Bds} {M : Nat} {ρ v : Val} (hs : SameB ⟨M, [], [], []⟩ v ρ) (hv : bs.v.length ≤ M) (ha : bs.a.length ≤ M) (hJ : bs.J ρ → bs.J v) (h : bs.hold ρ) : bs.hold v := by
  have key : ∀ j, j < M → Keys.has M [] j = true := fun j hj => by unfold Keys.has; rw [show Nat.blt j M = true from by rw [Nat.blt_eq]; exact hj]
  refine ⟨fun i l u hh => ?_, fun i l u hh n => ?_, hJ h.2.2⟩
  · have hi := (List.getElem?_eq_some_iff.1 hh).1
    rw [hs.i i (key i (by omega))]; exact h.1 i l u hh
  · have hi := (List.getElem?_eq_some_iff.1 hh).1
    rw [hs.a i (key i (by omega))]; exact h.2.1 i l u hh n
theorem same_i {M : Nat} {v ρ : Val} (hs : SameB ⟨M, [], [], []⟩ v ρ) {j : Nat} (hj : j < M) : v.i j = ρ.i j := hs.i j (by unfold Keys.has; rw [show Nat.blt j M = true from by rw [Nat.blt_eq]; exact hj])
theorem same_a {M : Nat} {v ρ : Val} (hs : SameB ⟨M, [], [], []⟩ v ρ) {j : Nat} (hj : j < M) : v.a j = ρ.a j := hs.a j (by unfold Keys.has; rw [show Nat.blt j M = true from by rw [Nat.blt_eq]; exact hj])
theorem holds_cons {p : E × Bool} {l : List (E × Bool)} {ρ : Val} (h : p.1.T ρ = p.2) (t : Holds l ρ) : Holds (p :: l) ρ := forall_cons h t
theorem holds_nil {ρ : Val} : Holds [] ρ := forall_nil

/-! ### Scans -/
def v100 : E := .var 100
def v101 : E := .var 101
def headF (n : E) : List (E × Bool) := [(.bin .lt v100 (.lit 0), false), (.bin .lt n v100, false), (.bin .lt v100 (.lit 70368744177665), true)]
/-- 'for i, x := range l { if !is(x) { return i } }; return len(l)' -/
def scanA (slot res : Nat) (j d : Nat) (n p : E) (pre f0 f1 : List (E × Bool)) : LSpec where
  M := 100
  tpl := [(slot, .c (.int .i64 v100))]
  ini := { i := [(100, .lit 0)] }
  pre := pre
  hfs := headF n
  ways := [{ tests := [(.bin .lt v100 n, true), (prE j v100 d, true)], σ := { i := [(100, .bin .add v100 (.lit 1))] } },
    { tests := [(.bin .lt v100 n, true), (prE j v100 d, false)], ex := .ret, kd := .out, cond := .bin .lt p n, facts := f0, σ := { i := [(100, v100)] }, xtra := [(res, .c (.int .i64 v100))], fin := { i := [(100, p)] } },
    { tests := [(.bin .lt v100 n, false)], ex := .exit 0, kd := .out, facts := f1, σ := { i := [(100, v100)] }, fin := { i := [(100, p)] } }]
/-- 'for n < len(l) && is(l[n]) { n++ }' -/
def scanB (slot : Nat) (j d : Nat) (n p : E) (pre f : List (E × Bool)) : LSpec where
  M := 100
  tpl := [(slot, .c (.int .i64 v100))]
  ini := { i := [(100, .lit 0)] }
  pre := pre
  hfs := headF n
  ways := [{ tests := [(.bin .lt v100 n, true), (prE j v100 d, true)], σ := { i := [(100, .bin .add v100 (.lit 1))] } },
    { tests := [(.bin .and (.bin .lt v100 n) (prE j v100 d), false)], ex := .exit 0, kd := .out, facts := f, σ := { i := [(100, v100)] }, fin := { i := [(100, p)] } }]
/-- 'for i := 1; i < len(l) && is(l[i]); i++ { n++ }' -/
def scanC (slot slot' : Nat) (j : Nat) (n p : E) (pre f : List (E × Bool)) : LSpec where
  M := 100
  tpl := [(slot, .c (.int .i64 v100)), (slot', .c (.int .i64 v101))]
  ini := { i := [(100, .lit 0), (101, .lit 1)] }
  pre := pre
  hfs := [(.bin .lt v100 (.lit 0), false), (.bin .lt v100 (.lit 70368744177665), true), (.bin .lt v101 (.lit 1), false), (.bin .lt v101 (.lit 70368744177665), true)]
  ways := [{ tests := [(.bin .lt v101 n, true), (prE j v101 0, true)], σ := { i := [(100, .bin .add v100 (.lit 1)), (101, .bin .add v101 (.lit 1))] } },
    { tests := [(.bin .and (.bin .lt v101 n) (prE j v101 0), false)], ex := .exit 0, kd := .out, facts := f, σ := { i := [(100, v100), (101, v101)] }, fin := { i := [(100, p), (101, .bin .add p (.lit 1))] } }]
structure ScanOk (bs : Bds) (j d : Nat) (n p : E) (pre : List (E × Bool)) : Prop where
  same : ∀ ρ v, SameB ⟨100, [], [], []⟩ v ρ → bs.hold ρ → bs.hold v
  under : n.under ⟨100, [], [], []⟩ = true
  lim : ∀ ρ, bs.hold ρ → Holds pre ρ → 0 ≤ n.I ρ ∧ n.I ρ ≤ 70368744177663
  val : ∀ ρ, bs.hold ρ → Holds pre ρ → p.I ρ = (lead (fun k => cellP j (ρ.a 0) (k * 2 + d)) (n.I ρ).toNat : Nat)
def ScanJ (j d : Nat) (n : E) (ρ v : Val) : Prop := ∃ k : Nat, v.i 100 = k ∧ (k : Int) ≤ n.I ρ ∧ ∀ i, i < k → cellP j (ρ.a 0) (i * 2 + d) = true
theorem scan_tests {j d : Nat} {n : E} {ρ v : Val} {k : Nat} (hu : n.under ⟨100, [], [], []⟩ = true) (hs : SameB ⟨100, [], [], []⟩ v ρ) (hk : v.i 100 = k) :
    (Sx.E.bin .lt v100 n).T v = decide ((k : Int) < n.I ρ) ∧ (prE j v100 d).T v = cellP j (ρ.a 0) (k * 2 + d) := by
  refine ⟨?_, ?_⟩
  · simp only [E.T, v100, E.I, hk, (below_eq hs n hu).1]
  · rw [prE_T (i := v100) (k := k) (by simp only [v100, E.I, hk]), same_a (M := 100) (j := 0) hs (by omega)]
theorem scanA_good {bs : Bds} {slot res j d : Nat} {n p : E} {pre f0 f1 : List (E × Bool)} (h : ScanOk bs j d n p pre)
    (h0 : ∀ ρ, bs.hold ρ → Holds pre ρ → p.I ρ < n.I ρ → Holds f0 ρ) (h1 : ∀ ρ, bs.hold ρ → Holds pre ρ → p.I ρ = n.I ρ → Holds f1 ρ) :
    Good bs (scanA slot res j d n p pre f0 f1) (ScanJ j d n) (fun ρ v => (n.I ρ - v.i 100).toNat) where
  start ρ hb hp := ⟨0, rfl, (h.lim ρ hb hp).1, fun i hi => absurd hi (by omega)⟩
  head ρ v hb hp hs hJ := by
    obtain ⟨k, hk, hkn, _⟩ := hJ
    have hn := h.lim ρ hb hp
    have hnv := (below_eq hs n h.under).1
    refine ⟨holds_cons ?_ (holds_cons ?_ (holds_cons ?_ holds_nil)), h.same ρ v hs hb⟩ <;> simp only [E.T, v100, E.I, hk, hnv, decide_eq_false_iff_not, decide_eq_true_eq] <;> omega
  next i w hw hkd ρ v hb hp hs hJ ht := by
    obtain ⟨k, hk, hkn, hall⟩ := hJ
    obtain ⟨t1, t2⟩ := scan_tests (j := j) (d := d) h.under hs hk
    rcases i with _ | _ | _ | i
    · simp only [scanA, List.getElem?_cons_zero, Option.some.injEq] at hw
      subst hw
      have a1 := ht _ List.mem_cons_self
      have a2 := ht _ (List.mem_cons_of_mem _ List.mem_cons_self)
      simp only [t1, t2, decide_eq_true_eq] at a1 a2
      refine ⟨⟨k + 1, ?_, by omega, fun i hi => ?_⟩, ?_⟩
      · show v.i 100 + 1 = _; rw [hk]; rfl
      · by_cases hik : i = k
        · rw [hik]; exact a2
        · exact hall i (by omega)
      · show (n.I ρ - (v.i 100 + 1)).toNat < (n.I ρ - v.i 100).toNat
        omega
    · simp only [scanA, List.getElem?_cons_zero, List.getElem?_cons_succ, Option.some.injEq] at hw; subst hw; cases hkd
    · simp only [scanA, List.getElem?_cons_zero, List.getElem?_cons_succ, Option.some.injEq] at hw; subst hw; cases hkd
    · simp [scanA] at hw
  dead i w hw hkd := by
    rcases i with _ | _ | _ | i
    · simp only [scanA, List.getElem?_cons_zero, Option.some.injEq] at hw; subst hw; cases hkd
    · simp only [scanA, List.getElem?_cons_zero, List.getElem?_cons_succ, Option.some.injEq] at hw; subst hw; cases hkd
    · simp only [scanA, List.getElem?_cons_zero, List.getElem?_cons_succ, Option.some.injEq] at hw; subst hw; cases hkd
    · simp [scanA] at hw
  out i w hw hkd ρ v hb hp hs hJ ht := by
    obtain ⟨k, hk, hkn, hall⟩ := hJ
    obtain ⟨t1, t2⟩ := scan_tests (j := j) (d := d) h.under hs hk
    have hn := h.lim ρ hb hp
    have hpp := h.val ρ hb hp
    rcases i with _ | _ | _ | i
    · simp only [scanA, List.getElem?_cons_zero, Option.some.injEq] at hw; subst hw; cases hkd
    · simp only [scanA, List.getElem?_cons_zero, List.getElem?_cons_succ, Option.some.injEq] at hw
      subst hw
      have a1 := ht _ List.mem_cons_self
      have a2 := ht _ (List.mem_cons_of_mem _ List.mem_cons_self)
      simp only [t1, t2, decide_eq_true_eq] at a1 a2
      have hu := lead_uniq (q := fun k => cellP j (ρ.a 0) (k * 2 + d)) (n := (n.I ρ).toNat) (k := k) (by omega) hall (fun _ => a2)
      have e : p.I ρ = k := by rw [hpp, ← hu]
      refine ⟨?_, ⟨fun q hq => ?_, fun q hq => absurd hq (by simp), fun q hq => absurd hq (by simp)⟩⟩
      · simp only [scanA, selIx, Sx.E.T, e, decide_eq_true_eq]
        rw [if_pos a1]
      · simp only [List.mem_cons, List.not_mem_nil, or_false] at hq
        subst hq
        show v.i 100 = p.I ρ
        rw [hk, e]
    · simp only [scanA, List.getElem?_cons_zero, List.getElem?_cons_succ, Option.some.injEq] at hw
      subst hw
      have a1 := ht _ List.mem_cons_self
      simp only [t1, decide_eq_false_iff_not] at a1
      have hu := lead_uniq (q := fun k => cellP j (ρ.a 0) (k * 2 + d)) (n := (n.I ρ).toNat) (k := k) (by omega) hall (fun _ => by omega)
      have e : p.I ρ = k := by rw [hpp, ← hu]
      refine ⟨?_, ⟨fun q hq => ?_, fun q hq => absurd hq (by simp), fun q hq => absurd hq (by simp)⟩⟩
      · simp only [scanA, selIx, Sx.E.T, e, decide_eq_true_eq]
        rw [if_neg a1, if_pos trivial]
      · simp only [List.mem_cons, List.not_mem_nil, or_false] at hq
        subst hq
        show v.i 100 = p.I ρ
        rw [hk, e]
    · simp [scanA] at hw
  fin ρ hb hp := by
    have hn := h.lim ρ hb hp
    have hpp := h.val ρ hb hp
    have hle := lead_le (fun k => cellP j (ρ.a 0) (k * 2 + d)) (n.I ρ).toNat
    simp only [scanA, FactsOk, Sx.E.T, decide_eq_true_eq, if_true]
    split
    · rename_i hlt; exact h0 ρ hb hp hlt
    · exact h1 ρ hb hp (by omega)
theorem scanB_good {bs : Bds} {slot j d : Nat} {n p : E} {pre f : List (E × Bool)} (h : ScanOk bs j d n p pre) (hf : ∀ ρ, bs.hold ρ → Holds pre ρ → Holds f ρ) :
    Good bs (scanB slot j d n p pre f) (ScanJ j d n) (fun ρ v => (n.I ρ - v.i 100).toNat) where
  start ρ hb hp := ⟨0, rfl, (h.lim ρ hb hp).1, fun i hi => absurd hi (by omega)⟩
  head ρ v hb hp hs hJ := by
    obtain ⟨k, hk, hkn, _⟩ := hJ
    have hn := h.lim ρ hb hp
    have hnv := (below_eq hs n h.under).1
    refine ⟨holds_cons ?_ (holds_cons ?_ (holds_cons ?_ holds_nil)), h.same ρ v hs hb⟩ <;> simp only [E.T, v100, E.I, hk, hnv, decide_eq_false_iff_not, decide_eq_true_eq] <;> omega
  next i w hw hkd ρ v hb hp hs hJ ht := by
    obtain ⟨k, hk, hkn, hall⟩ := hJ
    obtain ⟨t1, t2⟩ := scan_tests (j := j) (d := d) h.under hs hk
    rcases i with _ | _ | i
    · simp only [scanB, List.getElem?_cons_zero, Option.some.injEq] at hw
      subst hw
      have a1 := ht _ List.mem_cons_self
      have a2 := ht _ (List.mem_cons_of_mem _ List.mem_cons_self)
      simp only [t1, t2, decide_eq_true_eq] at a1 a2
      refine ⟨⟨k + 1, ?_, by omega, fun i hi => ?_⟩, ?_⟩
      · show v.i 100 + 1 = _; rw [hk]; rfl
      · by_cases hik : i = k
        · rw [hik]; exact a2
        · exact hall i (by omega)
      · show (n.I ρ - (v.i 100 + 1)).toNat < (n.I ρ - v.i 100).toNat
        omega
    · simp only [scanB, List.getElem?_cons_zero, List.getElem?_cons_succ, Option.some.injEq] at hw; subst hw; cases hkd
    · simp [scanB] at hw
  dead i w hw hkd := by
    rcases i with _ | _ | i
    · simp only [scanB, List.getElem?_cons_zero, Option.some.injEq] at hw; subst hw; cases hkd
    · simp only [scanB, List.getElem?_cons_zero, List.getElem?_cons_succ, Option.some.injEq] at hw; subst hw; cases hkd
    · simp [scanB] at hw
  out i w hw hkd ρ v hb hp hs hJ ht := by
    obtain ⟨k, hk, hkn, hall⟩ := hJ
    obtain ⟨t1, t2⟩ := scan_tests (j := j) (d := d) h.under hs hk
    have hn := h.lim ρ hb hp
    have hpp := h.val ρ hb hp
    rcases i with _ | _ | i
    · simp only [scanB, List.getElem?_cons_zero, Option.some.injEq] at hw; subst hw; cases hkd
    · simp only [scanB, List.getElem?_cons_zero, List.getElem?_cons_succ, Option.some.injEq] at hw
      subst hw
      have a1 := ht _ List.mem_cons_self
      have a1 : ((Sx.E.bin .lt v100 n).T v && (prE j v100 d).T v) = false := a1
      rw [t1, t2, Bool.and_eq_false_iff, decide_eq_false_iff_not] at a1
      have hu := lead_uniq (q := fun k => cellP j (ρ.a 0) (k * 2 + d)) (n := (n.I ρ).toNat) (k := k) (by omega) hall (fun hlt => a1.resolve_left (by omega))
      have e : p.I ρ = k := by rw [hpp, ← hu]
      refine ⟨?_, ⟨fun q hq => ?_, fun q hq => absurd hq (by simp), fun q hq => absurd hq (by simp)⟩⟩
      · simp only [scanB, selIx, Sx.E.T, if_true]
      · simp only [List.mem_cons, List.not_mem_nil, or_false] at hq
        subst hq
        show v.i 100 = p.I ρ
        rw [hk, e]
    · simp [scanB] at hw
  fin ρ hb hp := by
    simp only [scanB, FactsOk, Sx.E.T, if_true]
    exact hf ρ hb hp
theorem scanC_good {bs : Bds} {slot slot' j : Nat} {n p : E} {pre f : List (E × Bool)} (h : ScanOk bs j 2 (.bin .add n (.lit (-1))) p pre) (hf : ∀ ρ, bs.hold ρ → Holds pre ρ → Holds f ρ) :
    Good bs (scanC slot slot' j n p pre f) (fun ρ v => ScanJ j 2 (.bin .add n (.lit (-1))) ρ v ∧ v.i 101 = v.i 100 + 1) (fun ρ v => (n.I ρ - v.i 100).toNat) where
  start ρ hb hp := ⟨⟨0, rfl, (h.lim ρ hb hp).1, fun i hi => absurd hi (by omega)⟩, rfl⟩
  head ρ v hb hp hs hJ := by
    obtain ⟨⟨k, hk, hkn, _⟩, h1⟩ := hJ
    have hn := h.lim ρ hb hp
    refine ⟨holds_cons ?_ (holds_cons ?_ (holds_cons ?_ (holds_cons ?_ holds_nil))), h.same ρ v hs hb⟩ <;> simp only [E.T, v100, v101, E.I, hk, h1, decide_eq_false_iff_not, decide_eq_true_eq] <;> omega
  next i w hw hkd ρ v hb hp hs hJ ht := by
    obtain ⟨⟨k, hk, hkn, hall⟩, h1⟩ := hJ
    have hu := h.under
    simp only [E.under, Bool.and_true] at hu
    have hnv := (below_eq hs n hu).1
    have hkn' : (k : Int) ≤ n.I ρ - 1 := hkn
    rcases i with _ | _ | i
    · simp only [scanC, List.getElem?_cons_zero, Option.some.injEq] at hw
      subst hw
      have a1 := ht _ List.mem_cons_self
      have a2 := ht _ (List.mem_cons_of_mem _ List.mem_cons_self)
      simp only [E.T, v101, E.I, h1, hk, hnv, decide_eq_true_eq] at a1
      rw [prE_T (i := v101) (k := k + 1) (by simp only [v101, E.I, h1, hk]; rfl), same_a (M := 100) (j := 0) hs (by omega)] at a2
      refine ⟨⟨⟨k + 1, ?_, ?_, fun i hi => ?_⟩, ?_⟩, ?_⟩
      · show v.i 100 + 1 = _; rw [hk]; rfl
      · show ((k + 1 : Nat) : Int) ≤ n.I ρ - 1; omega
      · by_cases hik : i = k
        · rw [hik]; rw [show k * 2 + 2 = (k + 1) * 2 + 0 from by omega]; exact a2
        · exact hall i (by omega)
      · show v.i 101 + 1 = v.i 100 + 1 + 1; omega
      · show (n.I ρ - (v.i 100 + 1)).toNat < (n.I ρ - v.i 100).toNat
        omega
    · simp only [scanC, List.getElem?_cons_zero, List.getElem?_cons_succ, Option.some.injEq] at hw; subst hw; cases hkd
    · simp [scanC] at hw
  dead i w hw hkd := by
    rcases i with _ | _ | i
    · simp only [scanC, List.getElem?_cons_zero, Option.some.injEq] at hw; subst hw; cases hkd
    · simp only [scanC, List.getElem?_cons_zero, List.getElem?_cons_succ, Option.some.injEq] at hw; subst hw; cases hkd
    · simp [scanC] at hw
  out i w hw hkd ρ v hb hp hs hJ ht := by
    obtain ⟨⟨k, hk, hkn, hall⟩, h1⟩ := hJ
    have hu := h.under
    simp only [E.under, Bool.and_true] at hu
    have hnv := (below_eq hs n hu).1
    have hn := h.lim ρ hb hp
    have hpp := h.val ρ hb hp
    have hkn' : (k : Int) ≤ n.I ρ - 1 := hkn
    have hn1 : (Sx.E.bin .add n (.lit (-1))).I ρ = n.I ρ - 1 := rfl
    rw [hn1] at hn hpp
    rcases i with _ | _ | i
    · simp only [scanC, List.getElem?_cons_zero, Option.some.injEq] at hw; subst hw; cases hkd
    · simp only [scanC, List.getElem?_cons_zero, List.getElem?_cons_succ, Option.some.injEq] at hw
      subst hw
      have a1 := ht _ List.mem_cons_self
      have a1 : ((Sx.E.bin .lt v101 n).T v && (prE j v101 0).T v) = false := a1
      rw [prE_T (i := v101) (k := k + 1) (by simp only [v101, E.I, h1, hk]; rfl), same_a (M := 100) (j := 0) hs (by omega), Bool.and_eq_false_iff] at a1
      have t1 : (Sx.E.bin .lt v101 n).T v = decide ((k : Int) + 1 < n.I ρ) := by simp only [E.T, v101, E.I, h1, hk, hnv]
      rw [t1, decide_eq_false_iff_not] at a1
      have hu := lead_uniq (q := fun k => cellP j (ρ.a 0) (k * 2 + 2)) (n := (n.I ρ - 1).toNat) (k := k) (by omega) hall (fun hlt => by
        have := a1.resolve_left (by omega)
        rw [show k * 2 + 2 = (k + 1) * 2 + 0 from by omega]; exact this)
      have e : p.I ρ = k := by rw [hpp, ← hu]
      refine ⟨?_, ⟨fun q hq => ?_, fun q hq => absurd hq (by simp), fun q hq => absurd hq (by simp)⟩⟩
      · simp only [scanC, selIx, Sx.E.T, if_true]
      · simp only [List.mem_cons, List.not_mem_nil, or_false] at hq
        rcases hq with rfl | rfl
        · show v.i 100 = p.I ρ
          rw [hk, e]
        · show v.i 101 = p.I ρ + 1
          rw [h1, hk, e]
    · simp [scanC] at hw
  fin ρ hb hp := by
    simp only [scanC, FactsOk, Sx.E.T, if_true]
    exact hf ρ hb hp
end Sx
end Go.Proofs.Ytigblagodlfedaa
