/- 'ReactDelta' of chapter 15 holds as stated: for every input the law returns true, and the arguments read afterwards as before, for every world it is called in. -/
import Derived.Test.YtpnclloaimepbaaRows
import Derived.Test.YtpnclloaimepbaaSyh
import Derived.Test.YtpnclloaimepbaaKc
import Derived.WalkKit
import Derived.ProofKit
import Derived.OpenShut
import Derived.ChangeOld
import Derived.Below
import Derived.SizedLaws
namespace Go.Proofs.Ytpnclloaimepbaa.reactDelta
open Go.ChangeShapes Go.WideShapes Go.ChangeAt Go.RowKit
open Sx (Env evF callF Val Bds Holds holds_cons holds_nil SlIn SFit PA SA)
set_option linter.unusedVariables false

theorem own : ownKnob Try.prog.godebug = none := by kernel_rfl
theorem laidOut : laidOutB Try.prog = true := by kernel_rfl

/-! ### What is near behind so many changes -/
def nearK : List IntKind := [.u8, .u8, .u8, .u8, .u8, .u8, .u8, .u8, .u8, .u8, .u8, .u8, .u8, .u8, .u8, .u8, .u8, .u8, .u8, .u8, .u8, .u8, .u8, .u64]
def args : List SA := [.agg (nearK.map .int), .agg [.sl, .int .i64, .int .i64]]
def ks : List IntKind := [.i64, .u8, .u8]
def M : Nat := 8796093022207
def put (z : Nat → Int) (d k l : Int) : Nat → Int := fun j => if d = ((j / 2 : Nat) : Int) then (if j % 2 = 0 then k else l) else z j
def beh (z A : Nat → Int) : Nat → Nat → Int
  | 0 => z
  | i + 1 => put (beh z A i) (A (3 * i)) (A (3 * i + 1)) (A (3 * i + 2))
theorem pos1 {A : Nat → Int} (h : Sx.PosIn ks A) (i : Nat) : 0 ≤ A (3 * i + 1) ∧ A (3 * i + 1) ≤ 255 := by
  have := h (3 * i + 1)
  rw [show (3 * i + 1) % ks.length = 1 from by show (3 * i + 1) % 3 = 1; omega] at this
  exact this
theorem pos2 {A : Nat → Int} (h : Sx.PosIn ks A) (i : Nat) : 0 ≤ A (3 * i + 2) ∧ A (3 * i + 2) ≤ 255 := by
  have := h (3 * i + 2)
  rw [show (3 * i + 2) % ks.length = 2 from by show (3 * i + 2) % 3 = 2; omega] at this
  exact this
theorem beh_bd {z A : Nat → Int} (hz : ∀ j, j < 14 → 0 ≤ z j ∧ z j ≤ 255) (hA : Sx.PosIn ks A) : ∀ i j, j < 14 → 0 ≤ beh z A i j ∧ beh z A i j ≤ 255
  | 0, j, hj => hz j hj
  | i + 1, j, hj => by
    have ih := beh_bd hz hA i j hj
    have h1 := pos1 hA i
    have h2 := pos2 hA i
    unfold beh put
    split
    · split
      · exact h1
      · exact h2
    · exact ih

/-! ### What the symbols stand for -/
def pro (zs : List Int) (A : Nat → Int) (off len cap : Nat) : Val := ⟨fun i => if i = 91 then off else if i = 1 then len else if i = 90 then cap else if i = 0 then 0 else if 28 ≤ i then beh (fun j => zs.getD j 0) A len (i - 28) else zs.getD (i - 2) 0, fun _ => false, fun _ => A, fun _ => ByteArray.empty⟩
def b8 : Int × Int := (0, 255)
def bsD : Bds where
  v := [(0, 0), (0, 8796093022207), b8, b8, b8, b8, b8, b8, b8, b8, b8, b8, b8, b8, b8, b8, b8, b8, b8, b8, b8, b8, b8, b8, b8, (0, 18446744073709551615), (-9223372036854775808, 9223372036854775807), (-9223372036854775808, 9223372036854775807),
    b8, b8, b8, b8, b8, b8, b8, b8, b8, b8, b8, b8, b8, b8]
  a := [(-9223372036854775808, 9223372036854775807)]
  J := fun ρ => (∀ j, j < 14 → ρ.i (28 + j) = beh (fun j => ρ.i (2 + j)) (ρ.a 0) (ρ.i 1).toNat j) ∧ Sx.PosIn ks (ρ.a 0)
theorem kindsA : SA.kinds args = nearK ++ [.i64, .i64] := rfl
theorem pro_z (zs : List Int) (A : Nat → Int) (off len cap : Nat) (hl : zs.length = 26) (j : Nat) (hj : j < zs.length) : (pro zs A off len cap).i (2 + j) = zs.getD j 0 := by
  simp only [pro]
  rw [if_neg (by omega), if_neg (by omega), if_neg (by omega), if_neg (by omega), if_neg (by omega), show 2 + j - 2 = j from by omega]
theorem holdD {zs : List Int} {A : Nat → Int} {off len cap : Nat} (hz : Sx.Fit (SA.kinds args) zs) (hl : len ≤ M) (hA : Sx.PosIn ks A) : bsD.hold (pro zs A off len cap) := by
  have hzl : zs.length = 26 := hz.length
  have hM : M = 8796093022207 := rfl
  have hz8 : ∀ j, j < 14 → 0 ≤ zs.getD j 0 ∧ zs.getD j 0 ≤ 255 := fun j hj => by
    refine hz.get j 0 255 ?_
    have : j = 0 ∨ j = 1 ∨ j = 2 ∨ j = 3 ∨ j = 4 ∨ j = 5 ∨ j = 6 ∨ j = 7 ∨ j = 8 ∨ j = 9 ∨ j = 10 ∨ j = 11 ∨ j = 12 ∨ j = 13 := by omega
    rcases this with rfl | rfl | rfl | rfl | rfl | rfl | rfl | rfl | rfl | rfl | rfl | rfl | rfl | rfl <;> rfl
  have hbe := beh_bd hz8 hA len
  have hbv : bsD.v = (0, 0) :: (0, 8796093022207) :: ((SA.kinds args).map (fun k => (k.min, k.max)) ++ List.replicate 14 (0, 255)) := by decide
  refine ⟨fun i l u h => ?_, fun i l u h n => ?_, fun j hj => ?_, hA⟩
  · rw [hbv] at h
    rcases i with _ | _ | i
    · simp at h; obtain ⟨rfl, rfl⟩ := h
      exact ⟨Int.le_refl _, Int.le_refl _⟩
    · simp at h; obtain ⟨rfl, rfl⟩ := h; show 0 ≤ (len : Int) ∧ (len : Int) ≤ _; omega
    · simp only [List.getElem?_cons_succ] at h
      by_cases hi : i < 26
      · rw [List.getElem?_append_left (by rw [List.length_map]; exact hi)] at h
        have := hz.get i l u h
        rw [show i + 1 + 1 = 2 + i from by omega, pro_z zs A off len cap hzl i (by omega)]
        exact this
      · rw [List.getElem?_append_right (by rw [List.length_map]; exact Nat.le_of_not_lt hi)] at h
        obtain ⟨j, rfl⟩ : ∃ j, i = j + 26 := ⟨i - 26, by omega⟩
        rw [List.length_map, show j + 26 - (SA.kinds args).length = j from by rw [show (SA.kinds args).length = 26 from rfl]; omega] at h
        have hj : j < 14 := by
          refine Nat.lt_of_not_le fun hc => ?_
          rw [List.getElem?_eq_none (by simpa using hc)] at h; cases h
        rw [List.getElem?_replicate, if_pos hj] at h
        simp only [Option.some.injEq, Prod.mk.injEq] at h
        obtain ⟨rfl, rfl⟩ := h
        simp only [pro]
        by_cases h62 : j = 62
        · omega
        · rw [if_neg (by omega), if_neg (by omega), if_neg (by omega), if_neg (by omega), if_pos (by omega), show j + 26 + 1 + 1 - 28 = j from by omega]
          exact hbe j hj
  · rcases i with _ | i
    · simp [bsD] at h; obtain ⟨rfl, rfl⟩ := h
      have := hA n
      have hr : n % ks.length = 0 ∨ n % ks.length = 1 ∨ n % ks.length = 2 := by show n % 3 = 0 ∨ n % 3 = 1 ∨ n % 3 = 2; omega
      show -9223372036854775808 ≤ A n ∧ A n ≤ 9223372036854775807
      rcases hr with h | h | h
      · rw [h] at this; exact this
      · rw [h] at this
        have t : (0 : Int) ≤ A n ∧ A n ≤ 255 := this
        omega
      · rw [h] at this
        have t : (0 : Int) ≤ A n ∧ A n ≤ 255 := this
        omega
    · simp [bsD] at h
  · have h28 : (pro zs A off len cap).i (28 + j) = beh (fun j => zs.getD j 0) A len j := by
      simp only [pro]
      rw [if_neg (by omega), if_neg (by omega), if_neg (by omega), if_neg (by omega), if_pos (by omega), show 28 + j - 28 = j from by omega]
    rw [h28]
    show _ = beh (fun j => (pro zs A off len cap).i (2 + j)) A len j
    have key : ∀ i j, j < 14 → beh (fun j => zs.getD j 0) A i j = beh (fun j => (pro zs A off len cap).i (2 + j)) A i j := fun i => by
      induction i with
      | zero => intro j hj; exact (pro_z zs A off len cap hzl j (by omega)).symm
      | succ i ih =>
        intro j hj
        show put _ _ _ _ j = put _ _ _ _ j
        unfold put
        rw [ih j hj]
    exact key len j hj
theorem sameD (ρ v : Val) (hs : Sx.SameB ⟨100, [], [], []⟩ v ρ) (h : bsD.hold ρ) : bsD.hold v := Sx.hold_same hs (by decide) (by decide) (fun hJ => by
  have ha := Sx.same_a (M := 100) (j := 0) hs (by decide)
  refine ⟨fun j hj => ?_, by rw [ha]; exact hJ.2⟩
  rw [Sx.same_i hs (by omega), hJ.1 j hj, ha, Sx.same_i (j := 1) hs (by omega)]
  have key : ∀ i j, j < 14 → beh (fun j => ρ.i (2 + j)) (ρ.a 0) i j = beh (fun j => v.i (2 + j)) (ρ.a 0) i j := fun i => by
    induction i with
    | zero => intro j hj; exact (Sx.same_i hs (by omega)).symm
    | succ i ih =>
      intro j hj
      show put _ _ _ _ j = put _ _ _ _ j
      unfold put
      rw [ih j hj]
  exact key _ j hj) h

/-! ### The loops -/
def w100 : Sx.E := .var 100
def nE : Sx.E := .var 1
def rdE (o : Nat) : Sx.E := match o with | 0 => .bin .rd (.av 0) (.bin .mul w100 (.lit 3)) | o => .bin .rd (.av 0) (.bin .add (.bin .mul w100 (.lit 3)) (.lit o))
def lv (j : Nat) : Sx.E := .var (101 + j)
def row14 (e : Sx.E) (f : Nat → Sx.E) : List (Nat × Sx.E) := (100, e) :: (List.range 14).map fun j => (101 + j, f j)
def nearCells (f : Nat → Sx.E) : List Sx.MC := (List.range 14).map (fun j => .int .u8 (f j)) ++ (List.range 9).map (fun j => .int .u8 (.var (16 + j))) ++ [.int .u64 (.var 25)]
def hf : List (Sx.E × Bool) := (.bin .lt w100 (.lit 0), false) :: (.bin .lt nE w100, false) :: (.bin .lt (.lit 8796093022207) w100, false) :: (.bin .lt (rdE 1) (.lit 0), false) :: (.bin .lt (.lit 255) (rdE 1), false) :: (.bin .lt (rdE 2) (.lit 0), false) :: (.bin .lt (.lit 255) (rdE 2), false) ::
  ((List.range 14).map (fun j => (Sx.E.bin .lt (lv j) (.lit 0), false)) ++ (List.range 14).map (fun j => (Sx.E.bin .lt (.lit 255) (lv j), false)))
def ltn : Sx.E := .bin .lt w100 nE
def next : Sx.E := .bin .add w100 (.lit 1)
def setD (d : Nat) (j : Nat) : Sx.E := if j = 2 * d then rdE 1 else if j = 2 * d + 1 then rdE 2 else lv j
def wayD (d : Nat) : Sx.Way := { tests := [(ltn, true), (.bin .eq (rdE 0) (.lit d), true)], σ := { i := row14 next (setD d) } }
def wayO : Sx.Way := { tests := [(ltn, true), (.bin .eq (rdE 0) (.lit 0), false), (.bin .and (.bin .lt (.lit 0) (rdE 0)) (.un .not (.bin .lt (.lit 6) (rdE 0))), false)], σ := { i := row14 next (setD 9) } }
def wayR : Sx.Way := { tests := [(ltn, true)], σ := { i := row14 next fun j => .ite (.bin .eq (rdE 0) (.lit (j / 2 : Nat))) (rdE (1 + j % 2)) (lv j) } }
def wayX (ex : Nat) : Sx.Way := { tests := [(ltn, false)], ex := .exit ex, kd := .out, σ := { i := row14 w100 lv }, fin := { i := row14 nE fun j => .var (28 + j) } }
def spG (slot b : Nat) (ways : List Sx.Way) : Sx.LSpec where
  M := 100
  tpl := [(slot, .c (.int .i64 w100))]
  tplB := [(b, .cells (nearCells lv) 28 0)]
  ini := { i := row14 (.lit 0) fun j => .var (2 + j) }
  hfs := hf
  d := [b]
  ways := ways
def spB (slot b ex : Nat) : Sx.LSpec := spG slot b [wayD 0, wayD 1, wayD 2, wayD 3, wayD 4, wayD 5, wayD 6, wayO, wayX ex]
def spR (slot b ex : Nat) : Sx.LSpec := spG slot b [wayR, wayX ex]
theorem upd14 (v : Val) (e : Sx.E) (f : Nat → Sx.E) (j : Nat) (hj : j < 14) : (v.upd { i := row14 e f }).i (101 + j) = (f j).I v := by
  have : j = 0 ∨ j = 1 ∨ j = 2 ∨ j = 3 ∨ j = 4 ∨ j = 5 ∨ j = 6 ∨ j = 7 ∨ j = 8 ∨ j = 9 ∨ j = 10 ∨ j = 11 ∨ j = 12 ∨ j = 13 := by omega
  rcases this with rfl | rfl | rfl | rfl | rfl | rfl | rfl | rfl | rfl | rfl | rfl | rfl | rfl | rfl <;> rfl
structure At (ρ v : Val) (i : Nat) : Prop where
  e : v.i 100 = i
  le : (i : Int) ≤ ρ.i 1
  z : ∀ j, j < 14 → v.i (101 + j) = beh (fun j => ρ.i (2 + j)) (ρ.a 0) i j
theorem rd_I {ρ v : Val} (hs : Sx.SameB ⟨100, [], [], []⟩ v ρ) {i : Nat} (h : v.i 100 = i) (o : Nat) : (rdE o).I v = ρ.a 0 (3 * i + o) := by
  have ha := Sx.same_a (M := 100) (j := 0) hs (by decide)
  cases o with
  | zero => show v.a 0 (v.i 100 * 3).toNat = _; rw [ha, h, show ((i : Int) * 3).toNat = 3 * i + 0 from by omega]
  | succ o => show v.a 0 (v.i 100 * 3 + ((o + 1 : Nat) : Int)).toNat = _; rw [ha, h, show ((i : Int) * 3 + ((o + 1 : Nat) : Int)).toNat = 3 * i + (o + 1) from by omega]
theorem atNext {ρ v : Val} {i : Nat} (h : At ρ v i) (hlt : (i : Int) < ρ.i 1) {f : Nat → Sx.E} (hf : ∀ j, j < 14 → (f j).I v = put (beh (fun j => ρ.i (2 + j)) (ρ.a 0) i) (ρ.a 0 (3 * i)) (ρ.a 0 (3 * i + 1)) (ρ.a 0 (3 * i + 2)) j) : At ρ (v.upd { i := row14 next f }) (i + 1) :=
  ⟨by show v.i 100 + 1 = _; rw [h.e]; omega, by omega, fun j hj => by rw [upd14 v next f j hj, hf j hj]; rfl⟩
theorem setD_put {ρ v : Val} (hs : Sx.SameB ⟨100, [], [], []⟩ v ρ) {i : Nat} (h : At ρ v i) (d : Nat) (hd : d < 7 ∧ ρ.a 0 (3 * i) = d ∨ d = 9 ∧ (ρ.a 0 (3 * i) < 0 ∨ 6 < ρ.a 0 (3 * i))) (j : Nat) (hj : j < 14) :
    (setD d j).I v = put (beh (fun j => ρ.i (2 + j)) (ρ.a 0) i) (ρ.a 0 (3 * i)) (ρ.a 0 (3 * i + 1)) (ρ.a 0 (3 * i + 2)) j := by
  have r1 := rd_I hs h.e 1
  have r2 := rd_I hs h.e 2
  have hz := h.z j hj
  unfold setD put
  by_cases h1 : j = 2 * d
  · rw [if_pos h1, r1, if_pos (by omega), if_pos (by omega)]
  · rw [if_neg h1]
    by_cases h2 : j = 2 * d + 1
    · rw [if_pos h2, r2, if_pos (by omega), if_neg (by omega)]
    · rw [if_neg h2, if_neg (by omega)]
      exact hz
theorem ltn_T (v : Val) : ltn.T v = decide (v.i 100 < v.i 1) := rfl
theorem headD {ρ v : Val} {i : Nat} (hb : bsD.hold ρ) (hs : Sx.SameB ⟨100, [], [], []⟩ v ρ) (h : At ρ v i) : Holds hf v := by
  have h1 : v.i 1 = ρ.i 1 := Sx.same_i hs (by omega)
  have hl := hb.1 1 0 8796093022207 rfl
  have r1 := rd_I hs h.e 1
  have r2 := rd_I hs h.e 2
  have p1 := pos1 hb.2.2.2 i
  have p2 := pos2 hb.2.2.2 i
  have he := h.e
  have hle := h.le
  have hz : ∀ j, j < 14 → 0 ≤ v.i (101 + j) ∧ v.i (101 + j) ≤ 255 := fun j hj => by
    rw [h.z j hj]
    refine beh_bd (fun j hj => ?_) hb.2.2.2 i j hj
    refine hb.1 (2 + j) 0 255 ?_
    have : j = 0 ∨ j = 1 ∨ j = 2 ∨ j = 3 ∨ j = 4 ∨ j = 5 ∨ j = 6 ∨ j = 7 ∨ j = 8 ∨ j = 9 ∨ j = 10 ∨ j = 11 ∨ j = 12 ∨ j = 13 := by omega
    rcases this with rfl | rfl | rfl | rfl | rfl | rfl | rfl | rfl | rfl | rfl | rfl | rfl | rfl | rfl <;> rfl
  refine holds_cons (decide_eq_false ?_) (holds_cons (decide_eq_false ?_) (holds_cons (decide_eq_false ?_) (holds_cons (decide_eq_false ?_) (holds_cons (decide_eq_false ?_) (holds_cons (decide_eq_false ?_) (holds_cons (decide_eq_false ?_) fun p hp => ?_))))))
  · show ¬ v.i 100 < 0; omega
  · show ¬ v.i 1 < v.i 100; omega
  · show ¬ (8796093022207 : Int) < v.i 100; omega
  · show ¬ (rdE 1).I v < 0; rw [r1]; omega
  · show ¬ (255 : Int) < (rdE 1).I v; rw [r1]; omega
  · show ¬ (rdE 2).I v < 0; rw [r2]; omega
  · show ¬ (255 : Int) < (rdE 2).I v; rw [r2]; omega
  · rcases List.mem_append.1 hp with hp | hp
    · obtain ⟨j, hj, rfl⟩ := List.mem_map.1 hp
      have := hz j (List.mem_range.1 hj)
      exact decide_eq_false (by show ¬ v.i (101 + j) < 0; omega)
    · obtain ⟨j, hj, rfl⟩ := List.mem_map.1 hp
      have := hz j (List.mem_range.1 hj)
      exact decide_eq_false (by show ¬ (255 : Int) < v.i (101 + j); omega)
theorem outD {ρ v : Val} (hb : bsD.hold ρ) (hs : Sx.SameB ⟨100, [], [], []⟩ v ρ) {i : Nat} (h : At ρ v i) (ht : ltn.T v = false) (ex : Nat) : Sx.OutEq v ρ (wayX ex).σ (wayX ex).fin := by
  have h1 : v.i 1 = ρ.i 1 := Sx.same_i hs (by omega)
  rw [ltn_T, decide_eq_false_iff_not] at ht
  have he := h.e
  have hle := h.le
  have hi : i = (ρ.i 1).toNat := by omega
  refine ⟨fun q hq => ?_, fun q hq => absurd hq (by simp [wayX]), fun q hq => absurd hq (by simp [wayX])⟩
  simp only [wayX, row14, List.mem_cons] at hq
  rcases hq with rfl | hq
  · show v.i 100 = ρ.i 1; omega
  · obtain ⟨j, hj, rfl⟩ := List.mem_map.1 hq
    have hj := List.mem_range.1 hj
    show v.i (101 + j) = (ρ.upd { i := row14 nE fun j => .var (28 + j) }).i (101 + j)
    rw [upd14 ρ nE _ j hj, h.z j hj, hi]
    exact (hb.2.2.1 j hj).symm
theorem goodG (slot b : Nat) (ways : List Sx.Way) (ex : Nat) (hw : ∀ (j : Nat) (w : Sx.Way), ways[j]? = some w → w = wayX ex ∧ Sx.selIx (Val.zero) ways 0 = some j ∨
      w.kd = .next ∧ ∃ f, w.σ = { i := row14 next f } ∧ ∀ ρ v i, bsD.hold ρ → Sx.SameB ⟨100, [], [], []⟩ v ρ → At ρ v i → Holds w.tests v → ltn.T v = true ∧ ∀ j, j < 14 → (f j).I v = put (beh (fun j => ρ.i (2 + j)) (ρ.a 0) i) (ρ.a 0 (3 * i)) (ρ.a 0 (3 * i + 1)) (ρ.a 0 (3 * i + 2)) j)
    (hsel : ∀ ρ, Sx.selIx ρ ways 0 = Sx.selIx Val.zero ways 0) (hfin : ∀ ρ, Sx.FactsOk ρ ways) : ∃ J μ, Sx.Good bsD (spG slot b ways) J μ := ⟨fun ρ v => ∃ i : Nat, At ρ v i, fun ρ v => (ρ.i 1 - v.i 100).toNat, {
  start := fun ρ hb _ => ⟨0, rfl, by have := hb.1 1 0 8796093022207 rfl; omega, fun j hj => by
    show (ρ.upd { i := row14 (.lit 0) fun j => .var (2 + j) }).i (101 + j) = _
    rw [upd14 ρ _ _ j hj]; rfl⟩
  head := fun ρ v hb _ hs ⟨i, h⟩ => ⟨headD hb hs h, sameD ρ v hs hb⟩
  next := fun j w hwj hkd ρ v hb _ hs ⟨i, h⟩ ht => by
    rcases hw j w hwj with ⟨rfl, _⟩ | ⟨_, f, hσ, hf⟩
    · cases hkd
    · obtain ⟨h1, h2⟩ := hf ρ v i hb hs h ht
      rw [ltn_T, decide_eq_true_eq, Sx.same_i (M := 100) (j := 1) hs (by omega)] at h1
      have he := h.e
      rw [hσ]
      refine ⟨⟨i + 1, atNext h (by omega) h2⟩, ?_⟩
      show (ρ.i 1 - (v.i 100 + 1)).toNat < (ρ.i 1 - v.i 100).toNat
      omega
  dead := fun j w hwj hkd => by
    rcases hw j w hwj with ⟨rfl, _⟩ | ⟨h, _⟩
    · cases hkd
    · rw [h] at hkd; cases hkd
  out := fun j w hwj hkd ρ v hb _ hs ⟨i, h⟩ ht => by
    rcases hw j w hwj with ⟨rfl, hj⟩ | ⟨hk, _⟩
    · exact ⟨(hsel ρ).trans hj, outD hb hs h (ht _ List.mem_cons_self) ex⟩
    · rw [hk] at hkd; cases hkd
  fin := fun ρ hb _ => hfin ρ }⟩
theorem rd0 {ρ v : Val} (hs : Sx.SameB ⟨100, [], [], []⟩ v ρ) {i : Nat} (h : At ρ v i) : (rdE 0).I v = ρ.a 0 (3 * i) := rd_I hs h.e 0
theorem wayD_ok (d : Nat) (hd : d < 7) : (wayD d).kd = .next ∧ ∃ f, (wayD d).σ = { i := row14 next f } ∧ ∀ ρ v i, bsD.hold ρ → Sx.SameB ⟨100, [], [], []⟩ v ρ → At ρ v i → Holds (wayD d).tests v → ltn.T v = true ∧ ∀ j, j < 14 → (f j).I v = put (beh (fun j => ρ.i (2 + j)) (ρ.a 0) i) (ρ.a 0 (3 * i)) (ρ.a 0 (3 * i + 1)) (ρ.a 0 (3 * i + 2)) j :=
  ⟨rfl, setD d, rfl, fun ρ v i hb hs h ht => ⟨ht _ List.mem_cons_self, setD_put hs h d (.inl ⟨hd, by
    have : ((rdE 0).I v == (d : Int)) = true := ht _ (List.mem_cons_of_mem _ List.mem_cons_self)
    rw [rd0 hs h, beq_iff_eq] at this; exact this⟩)⟩⟩
theorem wayO_ok : wayO.kd = .next ∧ ∃ f, wayO.σ = { i := row14 next f } ∧ ∀ ρ v i, bsD.hold ρ → Sx.SameB ⟨100, [], [], []⟩ v ρ → At ρ v i → Holds wayO.tests v → ltn.T v = true ∧ ∀ j, j < 14 → (f j).I v = put (beh (fun j => ρ.i (2 + j)) (ρ.a 0) i) (ρ.a 0 (3 * i)) (ρ.a 0 (3 * i + 1)) (ρ.a 0 (3 * i + 2)) j :=
  ⟨rfl, setD 9, rfl, fun ρ v i hb hs h ht => ⟨ht _ List.mem_cons_self, setD_put hs h 9 (.inr ⟨rfl, by
    have h1 : ((rdE 0).I v == (0 : Int)) = false := ht _ (List.mem_cons_of_mem _ List.mem_cons_self)
    have h2 : (decide (0 < (rdE 0).I v) && !decide (6 < (rdE 0).I v)) = false := ht _ (List.mem_cons_of_mem _ (List.mem_cons_of_mem _ List.mem_cons_self))
    rw [rd0 hs h] at h1 h2
    have h1 : ¬ ρ.a 0 (3 * i) = 0 := by simpa using h1
    by_cases h3 : 0 < ρ.a 0 (3 * i)
    · right
      rw [decide_eq_true h3, Bool.true_and] at h2
      simpa using h2
    · left; omega⟩)⟩⟩
theorem wayR_ok : wayR.kd = .next ∧ ∃ f, wayR.σ = { i := row14 next f } ∧ ∀ ρ v i, bsD.hold ρ → Sx.SameB ⟨100, [], [], []⟩ v ρ → At ρ v i → Holds wayR.tests v → ltn.T v = true ∧ ∀ j, j < 14 → (f j).I v = put (beh (fun j => ρ.i (2 + j)) (ρ.a 0) i) (ρ.a 0 (3 * i)) (ρ.a 0 (3 * i + 1)) (ρ.a 0 (3 * i + 2)) j :=
  ⟨rfl, _, rfl, fun ρ v i hb hs h ht => ⟨ht _ List.mem_cons_self, fun j hj => by
    show (if ((rdE 0).I v == ((j / 2 : Nat) : Int)) = true then (rdE (1 + j % 2)).I v else v.i (101 + j)) = _
    rw [rd0 hs h, rd_I hs h.e (1 + j % 2), h.z j hj]
    unfold put
    by_cases hc : ρ.a 0 (3 * i) = ((j / 2 : Nat) : Int)
    · rw [if_pos (by simpa using hc), if_pos hc]
      split
      · rename_i h0; rw [h0]
      · rename_i h0; rw [show j % 2 = 1 from by omega]
    · rw [if_neg (by simpa using hc), if_neg hc]⟩⟩
theorem goodB (slot b ex : Nat) : ∃ J μ, Sx.Good bsD (spB slot b ex) J μ := goodG slot b _ ex (fun j w hw => by
  rcases j with _ | _ | _ | _ | _ | _ | _ | _ | _ | j
  all_goals simp only [List.getElem?_cons_zero, List.getElem?_cons_succ, Option.some.injEq, List.getElem?_nil, reduceCtorEq] at hw
  · subst hw; exact .inr (wayD_ok 0 (by omega))
  · subst hw; exact .inr (wayD_ok 1 (by omega))
  · subst hw; exact .inr (wayD_ok 2 (by omega))
  · subst hw; exact .inr (wayD_ok 3 (by omega))
  · subst hw; exact .inr (wayD_ok 4 (by omega))
  · subst hw; exact .inr (wayD_ok 5 (by omega))
  · subst hw; exact .inr (wayD_ok 6 (by omega))
  · subst hw; exact .inr wayO_ok
  · subst hw; exact .inl ⟨rfl, rfl⟩) (fun _ => rfl) (fun _ => by simp only [wayD, wayO, wayX, Sx.FactsOk, Sx.E.T, if_true]; exact holds_nil)
theorem goodR (slot b ex : Nat) : ∃ J μ, Sx.Good bsD (spR slot b ex) J μ := goodG slot b _ ex (fun j w hw => by
  rcases j with _ | _ | j
  all_goals simp only [List.getElem?_cons_zero, List.getElem?_cons_succ, Option.some.injEq, List.getElem?_nil, reduceCtorEq] at hw
  · subst hw; exact .inr wayR_ok
  · subst hw; exact .inl ⟨rfl, rfl⟩) (fun _ => rfl) (fun _ => by simp only [wayR, wayX, Sx.FactsOk, Sx.E.T, if_true]; exact holds_nil)
theorem goodS (slot : Nat) : ∃ J μ, Sx.Good bsD (Sx.eachS slot (.var 1)) J μ := ⟨_, _, Sx.eachS_good sameD (by decide) fun ρ hb => by
  have := hb.1 1 0 8796093022207 rfl
  exact ⟨this.1, by show ρ.i 1 ≤ _; omega⟩⟩

/-! ### The runs -/
noncomputable def loopsE1 : List (Nat × Code) := [(0, Sx.loopAt Try.f14 0), (1, Sx.loopAt Try.f15 0), (2, Sx.loopAt Try.f10 0)]
noncomputable def tabE1 : Sx.Tab := [(0, (Sx.loopAt Try.f14 0, [{ gd := [(2, .c (.ptr 6 (.lit 0)))], sp := spB 10 6 0 }, { gd := [(2, .c (.ptr 8 (.lit 0)))], sp := spB 10 8 0 }])), (1, (Sx.loopAt Try.f15 0, [{ gd := [(5, .c (.ptr 9 (.lit 0)))], sp := spR 6 9 0 }, { gd := [(5, .c (.ptr 11 (.lit 0)))], sp := spR 6 11 0 }])), (2, (Sx.loopAt Try.f10 0, [{ sp := Sx.eachS 5 (.var 1) }]))]
noncomputable def E1 : Env := { bs := bsD, sum := Sx.tabC (Kc.sT bsD), fns := [(4, Try.f4), (14, Sx.Func.marked Try.f14 [(0, 0)]), (15, Sx.Func.marked Try.f15 [(0, 1)]), (16, Try.f16), (17, Try.f17), (31, Try.f31), (32, Try.f32), (10, Sx.Func.marked Try.f10 [(0, 2)])], loops := Sx.runTab bsD tabE1, lk := Sx.lkOf loopsE1 }
theorem E1ok : E1.Ok Try.prog :=
  Sx.env_ok (Sx.forall_cons (Sx.fnOk_plain Try.func4 (by kernel_rfl) (by kernel_rfl)) (Sx.forall_cons (Sx.fnOk_marked Try.func14 (by kernel_rfl) (by kernel_rfl) (Sx.forall_cons rfl Sx.forall_nil)) (Sx.forall_cons (Sx.fnOk_marked Try.func15 (by kernel_rfl) (by kernel_rfl) (Sx.forall_cons rfl Sx.forall_nil)) (Sx.forall_cons (Sx.fnOk_plain Try.func16 (by kernel_rfl) (by kernel_rfl)) (Sx.forall_cons (Sx.fnOk_plain Try.func17 (by kernel_rfl) (by kernel_rfl)) (Sx.forall_cons (Sx.fnOk_plain Try.func31 (by kernel_rfl) (by kernel_rfl)) (Sx.forall_cons (Sx.fnOk_plain Try.func32 (by kernel_rfl) (by kernel_rfl)) (Sx.forall_cons (Sx.fnOk_marked Try.func10 (by kernel_rfl) (by kernel_rfl) (Sx.forall_cons rfl Sx.forall_nil)) Sx.forall_nil))))))))
    (Sx.loopsOk_mem (l := loopsE1) (tab := tabE1) rfl rfl (Sx.forall_cons (Sx.mk_eq (by kernel_rfl) rfl) (Sx.forall_cons (Sx.mk_eq (by kernel_rfl) rfl) (Sx.forall_cons (Sx.mk_eq (by kernel_rfl) rfl) Sx.forall_nil))) (Sx.forall_cons (Sx.forall_cons (goodB 10 6 0) (Sx.forall_cons (goodB 10 8 0) Sx.forall_nil)) (Sx.forall_cons (Sx.forall_cons (goodR 6 9 0) (Sx.forall_cons (goodR 6 11 0) Sx.forall_nil)) (Sx.forall_cons (Sx.forall_cons (goodS 5) Sx.forall_nil) Sx.forall_nil))))

noncomputable def loopsE0 : List (Nat × Code) := []
noncomputable def tabE0 : Sx.Tab := []
noncomputable def E0 : Env := { bs := bsD, sum := Sx.tabC (Kc.sT bsD), fns := [(4, Try.f4), (14, Try.f14), (15, Try.f15), (16, Try.f16), (17, Try.f17), (31, Try.f31), (32, Try.f32), (10, Try.f10)], loops := Sx.runTab bsD tabE0, lk := Sx.lkOf loopsE0 }
theorem E0ok : E0.Ok Try.prog :=
  Sx.env_ok (Sx.forall_cons (Sx.fnOk_plain Try.func4 (by kernel_rfl) (by kernel_rfl)) (Sx.forall_cons (Sx.fnOk_plain Try.func14 (by kernel_rfl) (by kernel_rfl)) (Sx.forall_cons (Sx.fnOk_plain Try.func15 (by kernel_rfl) (by kernel_rfl)) (Sx.forall_cons (Sx.fnOk_plain Try.func16 (by kernel_rfl) (by kernel_rfl)) (Sx.forall_cons (Sx.fnOk_plain Try.func17 (by kernel_rfl) (by kernel_rfl)) (Sx.forall_cons (Sx.fnOk_plain Try.func31 (by kernel_rfl) (by kernel_rfl)) (Sx.forall_cons (Sx.fnOk_plain Try.func32 (by kernel_rfl) (by kernel_rfl)) (Sx.forall_cons (Sx.fnOk_plain Try.func10 (by kernel_rfl) (by kernel_rfl)) Sx.forall_nil))))))))
    (Sx.loopsOk_mem (l := loopsE0) (tab := tabE0) rfl rfl Sx.forall_nil Sx.forall_nil)

def base : List (Sx.E × Bool) := [(.bin .lt (.var 91) (.lit 0), false), (.bin .lt (.var 90) (.var 1), false), (.bin .lt (.lit 0) (.var 1), true)]
def base0 : List (Sx.E × Bool) := [(.bin .lt (.var 91) (.lit 0), false), (.bin .lt (.var 90) (.lit 0), false)]
theorem runs1 : Sx.allG E1.bs (callF Try.prog E1 (evF Try.prog E1 3000) 4 (SA.mvs args 2 Sx.rowM1) (Sx.rowS ks (Sx.mkMul (.var 1) (.lit ks.length))) (Sx.factsOf base)) = true := by kernel_rfl
theorem runsN : Sx.allG E0.bs (callF Try.prog E0 (evF Try.prog E0 3000) 4 (SA.mvs args 2 .nils) {} (Sx.factsOf base0)) = true := by kernel_rfl
theorem runsE : Sx.allG E0.bs (callF Try.prog E0 (evF Try.prog E0 3000) 4 (SA.mvs args 2 Sx.emptyM) Sx.goneS (Sx.factsOf base0)) = true := by kernel_rfl
theorem walk {vs : List Value} {zs : List Int} {s : Value} {w : World} (hv : SFit s args vs zs) (hs : SlIn w ks M s) : Calls Try.prog 4 vs.toArray w fun e w' => e = .returned (.bool true) ∧ Below w.heap.size w w' :=
  Sx.law_sl1 (args := args) (E := E1) (E0 := E0) (n := 3000) Try.checked.mixed E1ok (Sx.tabC_sound (Kc.sT_ok _)) (Sx.tabC_sure (Kc.sT_ok _)) E0ok (Sx.tabC_sound (Kc.sT_ok _)) (Sx.tabC_sure (Kc.sT_ok _)) rfl pro
    (fun zs A off len cap hz => ⟨rfl, rfl, rfl, rfl, pro_z zs A off len cap (show zs.length = 26 from hz.length)⟩) (fun zs A off len cap hz hl hA => holdD hz hl hA)
    [base] (fun zs A off len cap h0 hc _ _ => ⟨_, List.mem_cons_self, holds_cons (decide_eq_false (by show ¬ ((off : Nat) : Int) < 0; omega)) (holds_cons (decide_eq_false (by show ¬ ((cap : Nat) : Int) < ((len : Nat) : Int); omega)) (holds_cons (decide_eq_true (by show (0 : Int) < ((len : Nat) : Int); omega)) holds_nil))⟩)
    [base0] (fun zs A off cap _ _ => ⟨_, List.mem_cons_self, holds_cons (decide_eq_false (by show ¬ ((off : Nat) : Int) < 0; omega)) (holds_cons (decide_eq_false (by show ¬ ((cap : Nat) : Int) < 0; omega)) holds_nil)⟩)
    (Sx.forall_cons runs1 Sx.forall_nil) (Sx.forall_cons runsN Sx.forall_nil) (Sx.forall_cons runsE Sx.forall_nil) hv hs

set_option maxRecDepth 100000 in
theorem lifted (os : Os) (started : os.Started) (H : Type) (enc : TypeId × Value → H) :
    ReturnsInHanded {} Try.checked os 4 .any (Rows.reactDeltaSpec.pre6 enc Try.prog Try.f4 Rows.reactDeltaRow.domain false) (Rows.reactDeltaSpec.post enc Try.prog Try.f4 false true false false) := by
  refine returnsInHanded_of_change_sized (C := Try.checked) own started (by kernel_rfl) Try.func4
    (ChangeSpec.witness6 (enc := enc) (C := Try.checked) false ⟨#[], #[.agg #[.int .u8 0, .int .u8 0, .int .u8 0, .int .u8 0, .int .u8 0, .int .u8 0, .int .u8 0, .int .u8 0, .int .u8 0, .int .u8 0, .int .u8 0, .int .u8 0, .int .u8 0, .int .u8 0, .int .u8 0, .int .u8 0, .int .u8 0, .int .u8 0, .int .u8 0, .int .u8 0, .int .u8 0, .int .u8 0, .int .u8 0, .int .u64 0], .agg #[.slice none 0 0, .int .i64 0, .int .i64 0]], []⟩ 8 (by kernel_rfl) (by kernel_rfl) (by kernel_rfl) (by kernel_rfl)) ?_
  intro W base args0 ds gs before hval0 hW _ hsz0 _
  have hsz : (DataW.weightsEach Try.prog (Try.f4.params.toList ++ Rows.reactDeltaSpec.plain.varTypes Try.prog) (ds ++ gs)).all (· ≤ reachBytes) = true := hsz0
  have hval : ∀ (j : Nat) t v, Try.f4.params[j]? = some t → args0[j]? = some v → Value.okWide Try.prog W .any base t v := hval0
  have hW' := hW
  obtain ⟨p, q, hA0, hV, rfl, hfz, hnd⟩ := hW
  have hA : DataW.TrodAll enc Try.prog W 0 (fun _ => true) true Try.f4.params.toList args0.toList ds p := hA0
  rw [Try.params4] at hA hval hsz
  obtain ⟨v0, vs0, d0, ds0, p0, q0, hargs, rfl, rfl, h0, r0⟩ := trodAll_cons hA
  obtain ⟨v1, vs1, d1, ds1, p1, q1, rfl, rfl, rfl, h1, r1⟩ := trodAll_cons r0
  obtain ⟨rfl, rfl, rfl⟩ := trodAll_nil r1
  obtain rfl : args0 = #[v0, v1] := by cases args0; simp_all
  obtain ⟨rfl, rfl⟩ := trodVars_none hV
  have lt0 : ∀ x ∈ p0, x.block < W.heap.size := by obtain ⟨m, hm⟩ := h0; exact DataW.trod_lt m _ _ _ hm
  have lt1 : ∀ x ∈ p1, x.block < W.heap.size := by obtain ⟨m, hm⟩ := h1; exact DataW.trod_lt m _ _ _ hm
  have hfit0 : Sx.AS.fits (.agg nearK) v0 := Sx.AS.fits_of (by kernel_rfl) (hval 0 _ v0 rfl rfl)
  obtain ⟨cs, s, z1, rfl, hp, hsl⟩ := Sx.stIn_of (d := 8) (q := 0) (M := M) (ks := ks) (st := 29) (e := 36) (ps := [.sl, .int .i64, .int .i64]) (ts := [29, 3, 3]) Try.underlying31 rfl rfl Try.underlying29 (by kernel_rfl) (by kernel_rfl) (by kernel_rfl) rfl rfl (by kernel_rfl) (by kernel_rfl) (by kernel_rfl) (by decide) (hval 1 _ v1 rfl rfl) h1
    (fun n hn => by have := List.all_eq_true.1 hsz _ (DataW.weights_mem_each (j := 1) rfl rfl n hn); simpa using this) (of_decide_eq_true (by kernel_rfl))
  have g2 : SFit s [] [] [] := .nil
  have g1 := Sx.SFit.agg hp g2
  obtain ⟨y0, g0⟩ := Sx.sfit_agg hfit0 g1
  clear hA0 hval0 hsz0
  refine (walk g0 hsl).mono fun e W' ⟨he, bel⟩ => ?_
  subst he
  exact ⟨_, rfl, _, _, _, [], _, [], hW', trodAll_mk1 (shut_bool Try.underlying4 _), (trodAll_cons_mk (Below.trod laidOut (by kernel_rfl) (of_decide_eq_true (by kernel_rfl)) h0 bel lt0) (trodAll_cons_mk (Below.trod laidOut (by kernel_rfl) (of_decide_eq_true (by kernel_rfl)) h1 bel lt1) trodAll_mk0)), rfl, bel.frame _, fun h => by cases h⟩

theorem over : Rows.reactDeltaRow.holds Try.pinned (OpenSpec.ofChange Rows.reactDeltaSpec) :=
  OpenClaim.holds_of_wide 4 Try.f4 rfl rfl rfl rfl rfl rfl rfl ⟨rfl, rfl, rfl, rfl, rfl⟩ rfl rfl rfl rfl rfl (by kernel_rfl) Try.func4 (by kernel_rfl)
    (of_decide_eq_true (by kernel_rfl)) (by unfold Func.isWrapper; first | (rw [if_pos (by decide +kernel)]; kernel_rfl) | (rw [if_neg (by decide +kernel)]; exact ⟨rfl, rfl⟩))
    (fun os started H enc _ => lifted os started H enc)

/-- THE STATEMENT. -/
theorem proved : Rows.ReactDeltaSaid := over
#print axioms proved
end Go.Proofs.Ytpnclloaimepbaa.reactDelta
