/- Arguments in which one slice of structs of numbers stands: alone, or in a struct. -/
import Derived.Test.YtmgiabehooghcaaSxx
import Derived.Deep.Slices
import Derived.SizedLaws
import Derived.DataReads
namespace Go.Proofs.Ytmgiabehooghcaa
namespace Sx
open Go.RowKit
/-- The cells from one on are these numbers. -/
structure RowIn (w : World) (g off : Nat) (ks : List IntKind) (n : Nat) (A : Nat → Int) : Prop where
  blk : ∃ (cs : Array Value) (t : Nat) (fr : Nat × Nat), w.heap[g]? = some (.cells cs t fr) ∧ off + n ≤ cs.size ∧ ∀ i, i < n → cs[off + i]? = some (.int (ks.getD (i % ks.length) .u8) (A i))

/-! ### Types that are numbers throughout -/
def goT (rec : Nat → Option (List IntKind)) (P : Program) : Nat → List Field → Option (List IntKind)
  | _, [] => some []
  | off, f :: r =>
    match Nat.beq f.offset off, rec f.type with
    | true, some k1 => (match Nat.beq (P.cellsOf f.type) k1.length, goT rec P (off + k1.length) r with | true, some k2 => some (k1 ++ k2) | _, _ => none)
    | _, _ => none
def intsT (P : Program) : Nat → Nat → Option (List IntKind)
  | 0, _ => none
  | d + 1, t =>
    match P.underlying t with
    | some (.int k) => some [k]
    | some (.struct fs) => (match goT (intsT P d) P 0 fs.toList with | some ks => (match Nat.beq (P.cellsOf t) ks.length with | true => some ks | false => none) | none => none)
    | _ => none
theorem intsOf_append : ∀ {k1 k2 : List IntKind} {z1 z2 : List Int}, Fit k1 z1 → intsOf (k1 ++ k2) (z1 ++ z2) = intsOf k1 z1 ++ intsOf k2 z2
  | [], _, _, _, h => by cases h; rfl
  | k :: k1, k2, _, z2, h => by
    cases h with
    | cons a t => simp only [List.cons_append, intsOf, intsOf_append t]
theorem intsOf_length : ∀ {ks : List IntKind} {zs : List Int}, Fit ks zs → (intsOf ks zs).length = ks.length
  | [], _, h => by cases h; rfl
  | k :: ks, _, h => by cases h with | cons a t => simp [intsOf, intsOf_length t]
section
variable {H : Type} {enc : TypeId × Value → H} {P : Program} {w : World} {base : Nat} {spare : Nat → Bool} {held : Bool}
theorem goT_spec {rec : Nat → Option (List IntKind)} {cs : List Value} : ∀ (fs : List Field) (off : Nat) (ks : List IntKind), goT rec P off fs = some ks →
    (∀ f ∈ fs, ∀ k1, rec f.type = some k1 → ∃ zs, Fit k1 zs ∧ (cs.drop f.offset).take (P.cellsOf f.type) = intsOf k1 zs) → ∃ zs, Fit ks zs ∧ (cs.drop off).take ks.length = intsOf ks zs
  | [], off, ks, h, _ => by simp only [goT, Option.some.injEq] at h; subst h; exact ⟨[], .nil, by simp [intsOf]⟩
  | f :: r, off, ks, h, hf => by
    unfold goT at h
    split at h
    · rename_i k1 ho hk1
      split at h
      · rename_i k2 hc hk2
        cases h
        have ho := Nat.eq_of_beq_eq_true ho
        have hc := Nat.eq_of_beq_eq_true hc
        obtain ⟨z1, a1, a2⟩ := hf f (by simp) k1 hk1
        obtain ⟨z2, b1, b2⟩ := goT_spec r (off + k1.length) k2 hk2 fun f hm => hf f (by simp [hm])
        refine ⟨z1 ++ z2, a1.append b1, ?_⟩
        rw [intsOf_append a1, ← a2, ← b2, hc, ho, List.length_append, List.take_add, List.drop_drop]
      · cases h
    · cases h
theorem ints_trod : ∀ (d : Nat) {t : Nat} {ks : List IntKind} {fuel : Nat} {cs : List Value} {x : DataW H × List MemPlace}, intsT P d t = some ks → DataW.trod enc P w base spare held fuel t cs = some x → ∃ zs, Fit ks zs ∧ cs = intsOf ks zs
  | 0, _, _, _, _, _, h, _ => by simp [intsT] at h
  | d + 1, t, ks, fuel, cs, x, h, ht => by
    unfold intsT at h
    split at h
    · rename_i k hu
      cases h
      obtain ⟨n, rfl, _, hwf⟩ := DataW.trod_int hu ht
      refine ⟨[n], .cons ?_ .nil, rfl⟩
      simpa [Lit.wf] using hwf
    · rename_i fs hu
      split at h
      · rename_i ks' hg
        split at h
        · rename_i hc
          cases h
          have hc := Nat.eq_of_beq_eq_true hc
          obtain ⟨xs, n, _, _, hlen, hxl, hf⟩ := DataW.trod_struct hu ht
          obtain ⟨zs, a1, a2⟩ := goT_spec (cs := cs) fs.toList 0 ks hg fun f hm k1 hk1 => by
            obtain ⟨i, hi⟩ := List.getElem?_of_mem hm
            have hi' : fs[i]? = some f := by simpa using hi
            have h1 := hf i f hi'
            have hil : i < fs.size := (Array.getElem?_eq_some_iff.1 hi').1
            rw [List.getElem?_eq_getElem (by omega)] at h1
            exact ints_trod d hk1 h1
          refine ⟨zs, a1, ?_⟩
          rw [List.drop_zero, List.take_of_length_le (by omega)] at a2
          exact a2
        · cases h
      · cases h
    · cases h

/-! ### A slice that came in -/
/-- Each place of a row holds a number of its kind. -/
def PosIn (ks : List IntKind) (A : Nat → Int) : Prop := ∀ n, (ks.getD (n % ks.length) .u8).min ≤ A n ∧ A n ≤ (ks.getD (n % ks.length) .u8).max
theorem PosIn.one {ks : List IntKind} {A : Nat → Int} (h : PosIn ks A) (h0 : 0 < ks.length) (n : Nat) : ∃ k ∈ ks, k.min ≤ A n ∧ A n ≤ k.max := by
  have hm := Nat.mod_lt n h0
  refine ⟨_, ?_, h n⟩
  simp [hm]
inductive SlIn (w : World) (ks : List IntKind) (M : Nat) : Value → Prop where
  | nil : SlIn w ks M (.slice none 0 0)
  | empty (g off cap : Nat) : SlIn w ks M (.slice (some ⟨g, off, none⟩) 0 cap)
  | row (g off len cap : Nat) (A : Nat → Int) (h0 : 0 < len) (hc : len ≤ cap) (hl : len ≤ M) (hA : PosIn ks A) (hr : RowIn w g off ks (len * ks.length) A) : SlIn w ks M (.slice (some ⟨g, off, none⟩) len cap)
theorem intsOf_get : ∀ {ks : List IntKind} {zs : List Int} (j : Nat), Fit ks zs → j < ks.length → (intsOf ks zs)[j]? = some (.int (ks.getD j .u8) (zs.getD j 0)) ∧ (ks.getD j .u8) ∈ ks ∧ (ks.getD j .u8).min ≤ zs.getD j 0 ∧ zs.getD j 0 ≤ (ks.getD j .u8).max
  | [], _, j, h, hj => by simp at hj
  | k :: ks, _, j, h, hj => by
    cases h with
    | cons a t =>
      rcases j with _ | j
      · simp [intsOf]; exact a
      · simp only [List.length_cons] at hj
        obtain ⟨h1, h2, h3⟩ := intsOf_get j t (by omega)
        simp only [intsOf, List.getElem?_cons_succ, List.getD_cons_succ, List.mem_cons]
        exact ⟨h1, .inr h2, h3⟩
/-- What a cell holds, as a number. -/
def cellZ (w : World) (g n : Nat) : Int := match w.cell? ⟨g, n, none⟩ with | some (.int _ z) => z | _ => 0
theorem zero_in (k : IntKind) : k.min ≤ 0 ∧ 0 ≤ k.max := by cases k <;> decide
theorem slIn_of {t e d M : Nat} {ks : List IntKind} {v : Value} {D : DataW H} {p : List MemPlace} {r : Reach} {b0 : Nat} (ht : P.underlying t = some (.slice e)) (hk : intsT P d e = some ks) (hc : P.cellsOf e = ks.length) (h0 : 0 < ks.length)
    (hval : Value.okWide P w r b0 t v) (htr : DataW.Trod enc P w base (fun _ => true) held t v D p) (hb : ∀ el sp, D = .slice el sp → el.length + sp.length ≤ M) : SlIn w ks M v := by
  obtain ⟨a0, len, cap, rfl⟩ := WideShapes.okWide_slice ht hval
  have hspot : ∀ a, a0 = some a → a.spot = none := fun a ha => by
    subst ha
    simp only [Value.okWide, ht, Cell.okWide, Cell.ok] at hval
    exact hval.2.2.2.1
  obtain ⟨fuel, hf⟩ := htr
  have hf : DataW.trod enc P w base (fun _ => true) held fuel t [.slice a0 len cap] = some (D, p) := hf
  rcases Deep.open_slice ht hf with ⟨h1, _⟩ | ⟨a, len', cap', m, n, Dl, Pl, h1, hbase, hl, hmx, hm, hx, hel⟩
  · simp at h1; obtain ⟨rfl, rfl, rfl⟩ := h1; exact .nil
  · simp at h1
    obtain ⟨rfl, rfl, rfl⟩ := h1
    simp only [if_true] at hm
    rw [hm] at hx hel
    clear hm
    have hsp := hspot a rfl
    obtain ⟨g, off, sp⟩ := a
    simp only at hsp
    subst hsp
    by_cases hl0 : len = 0
    · subst hl0; exact .empty g off cap
    simp only [Prod.mk.injEq] at hx
    have hcap := hb _ _ hx.1
    simp only [List.length_map, List.length_range] at hcap
    -- each cell
    have cellk : ∀ i j, i < cap → j < ks.length → ∃ z, w.cell? ⟨g, off + (i * ks.length + j), none⟩ = some (.int (ks.getD j .u8) z) ∧ (ks.getD j .u8) ∈ ks ∧ (ks.getD j .u8).min ≤ z ∧ z ≤ (ks.getD j .u8).max := fun i j hi hj => by
      obtain ⟨cs', hcs, htd⟩ := hel i hi
      obtain ⟨zs, hz, rfl⟩ := ints_trod d hk htd
      obtain ⟨_, hlen, hget⟩ := World.cells?_some hcs
      obtain ⟨g1, g2, g3⟩ := intsOf_get j hz hj
      have := hget j (by rw [hc]; exact hj)
      rw [g1, hc, Addr.add_mid, Addr.add_mid, Nat.add_assoc] at this
      exact ⟨_, this, g2, g3⟩
    have cellr : ∀ q, q < cap * ks.length → ∃ z, w.cell? ⟨g, off + q, none⟩ = some (.int (ks.getD (q % ks.length) .u8) z) ∧ (ks.getD (q % ks.length) .u8) ∈ ks ∧ (ks.getD (q % ks.length) .u8).min ≤ z ∧ z ≤ (ks.getD (q % ks.length) .u8).max := fun q hq => by
      have := cellk (q / ks.length) (q % ks.length) (by rw [Nat.div_lt_iff_lt_mul h0]; exact hq) (Nat.mod_lt _ h0)
      rw [show q / ks.length * ks.length + q % ks.length = q from by rw [Nat.mul_comm]; exact Nat.div_add_mod q ks.length] at this
      exact this
    have hle : len * ks.length ≤ cap * ks.length := Nat.mul_le_mul_right _ hl
    have hpos : 0 < len * ks.length := Nat.mul_pos (by omega) h0
    -- the block
    obtain ⟨z0, hz0, _⟩ := cellr 0 (by omega)
    have hblk : ∃ cs tt fr, w.heap[g]? = some (.cells cs tt fr) := by
      unfold World.cell? at hz0
      split at hz0
      · exact ⟨_, _, _, by assumption⟩
      · cases hz0
    obtain ⟨cs, tt, fr, hh⟩ := hblk
    have hcell : ∀ q, q < cap * ks.length → cs[off + q]? = some (.int (ks.getD (q % ks.length) .u8) (cellZ w g (off + q))) ∧ ((ks.getD (q % ks.length) .u8).min ≤ cellZ w g (off + q) ∧ cellZ w g (off + q) ≤ (ks.getD (q % ks.length) .u8).max) := fun q hq => by
      obtain ⟨z, h1, _, h3⟩ := cellr q hq
      have hz : cellZ w g (off + q) = z := by unfold cellZ; rw [h1]
      rw [hz]
      refine ⟨?_, h3⟩
      rw [← cell_of_row w g (off + q) cs tt fr hh]; exact h1
    refine .row g off len cap (fun q => if q < cap * ks.length then cellZ w g (off + q) else 0) (by omega) hl (by omega) (fun q => ?_) ⟨cs, tt, fr, hh, ?_, fun q hq => ?_⟩
    · by_cases hq : q < cap * ks.length
      · simp only [if_pos hq]; exact (hcell q hq).2
      · simp only [if_neg hq]; exact zero_in _
    · have := (hcell (len * ks.length - 1) (by omega)).1
      have := (Array.getElem?_eq_some_iff.1 this).1
      omega
    · rw [if_pos (by omega)]; exact (hcell q (by omega)).1
end


inductive PA where
  | int (k : IntKind) | sl
inductive SA where
  | one (p : PA) | agg (l : List PA)
def PA.kinds : List PA → List IntKind
  | [] => []
  | .int k :: l => k :: PA.kinds l
  | .sl :: l => PA.kinds l
def SA.kinds : List SA → List IntKind
  | [] => []
  | .one p :: l => PA.kinds [p] ++ SA.kinds l
  | .agg ps :: l => PA.kinds ps ++ SA.kinds l
inductive PFit (s : Value) : List PA → List Value → List Int → Prop where
  | nil : PFit s [] [] []
  | int {k : IntKind} {z : Int} {l : List PA} {vs : List Value} {zs : List Int} (h : k.min ≤ z ∧ z ≤ k.max) (t : PFit s l vs zs) : PFit s (.int k :: l) (.int k z :: vs) (z :: zs)
  | sl {l : List PA} {vs : List Value} {zs : List Int} (t : PFit s l vs zs) : PFit s (.sl :: l) (s :: vs) zs
inductive SFit (s : Value) : List SA → List Value → List Int → Prop where
  | nil : SFit s [] [] []
  | int {k : IntKind} {z : Int} {l : List SA} {vs : List Value} {zs : List Int} (h : k.min ≤ z ∧ z ≤ k.max) (t : SFit s l vs zs) : SFit s (.one (.int k) :: l) (.int k z :: vs) (z :: zs)
  | sl {l : List SA} {vs : List Value} {zs : List Int} (t : SFit s l vs zs) : SFit s (.one .sl :: l) (s :: vs) zs
  | agg {ps : List PA} {cs : List Value} {z1 : List Int} {l : List SA} {vs : List Value} {zs : List Int} (h : PFit s ps cs z1) (t : SFit s l vs zs) : SFit s (.agg ps :: l) (.agg cs.toArray :: vs) (z1 ++ zs)
theorem PFit.fit {s : Value} {l : List PA} {vs : List Value} {zs : List Int} (h : PFit s l vs zs) : Fit (PA.kinds l) zs := by
  induction h with
  | nil => exact .nil
  | int h _ ih => exact .cons h ih
  | sl _ ih => exact ih
theorem SFit.fit {s : Value} {l : List SA} {vs : List Value} {zs : List Int} (h : SFit s l vs zs) : Fit (SA.kinds l) zs := by
  induction h with
  | nil => exact .nil
  | int h _ ih => exact .cons h ih
  | sl _ ih => exact ih
  | agg h _ ih => exact h.fit.append ih
/-! ### From the types -/
def areP (P : Program) (st : Nat) : Option Nat → List PA → List Nat → Bool
  | none, [], [] => true
  | none, .int k :: l, t :: ts => isInt P k t && areP P st none l ts
  | some (n + 1), .int k :: l, t :: ts => isInt P k t && areP P st (some n) l ts
  | some 0, .sl :: l, t :: ts => Nat.beq t st && areP P st none l ts
  | _, _, _ => false
theorem areP_fit {P : Program} {w : World} {r : Reach} {b0 st : Nat} {s : Value} : ∀ {o : Option Nat} {ps : List PA} {ts : List Nat} {vs : List Value}, areP P st o ps ts = true → vs.length = ps.length →
    (∀ (i : Nat) (v : Value), vs[i]? = some v → ∃ u, ts[i]? = some u ∧ Cell.okWide P w r b0 u v) → (∀ n, o = some n → vs[n]? = some s) → ∃ zs, PFit s ps vs zs
  | none, [], [], [], _, _, _, _ => ⟨[], .nil⟩
  | none, .int k :: l, t :: ts, v :: vs, h, hl, hc, ho => by
    simp only [areP, Bool.and_eq_true] at h
    obtain ⟨u, hu, hok⟩ := hc 0 v rfl
    simp at hu; subst hu
    obtain ⟨n, rfl, hn⟩ := cell_int (isInt_eq h.1) hok
    obtain ⟨zs, hz⟩ := areP_fit (o := none) (vs := vs) h.2 (by simpa using hl) (fun i v hv => by simpa using hc (i + 1) v (by simpa using hv)) (fun n hn => by cases hn)
    exact ⟨n :: zs, .int hn hz⟩
  | some (n + 1), .int k :: l, t :: ts, v :: vs, h, hl, hc, ho => by
    simp only [areP, Bool.and_eq_true] at h
    obtain ⟨u, hu, hok⟩ := hc 0 v rfl
    simp at hu; subst hu
    obtain ⟨m, rfl, hn⟩ := cell_int (isInt_eq h.1) hok
    obtain ⟨zs, hz⟩ := areP_fit (o := some n) (vs := vs) h.2 (by simpa using hl) (fun i v hv => by simpa using hc (i + 1) v (by simpa using hv)) (fun q hq => by cases hq; simpa using ho (n + 1) rfl)
    exact ⟨m :: zs, .int hn hz⟩
  | some 0, .sl :: l, t :: ts, v :: vs, h, hl, hc, ho => by
    simp only [areP, Bool.and_eq_true] at h
    have := ho 0 rfl
    simp at this; subst this
    obtain ⟨zs, hz⟩ := areP_fit (o := none) (vs := vs) h.2 (by simpa using hl) (fun i v hv => by simpa using hc (i + 1) v (by simpa using hv)) (fun q hq => by cases hq)
    exact ⟨zs, .sl hz⟩
  | none, [], _ :: _, _, h, _, _, _ => by simp [areP] at h
  | none, .int _ :: _, [], _, h, _, _, _ => by simp [areP] at h
  | none, .sl :: _, _, _, h, _, _, _ => by simp [areP] at h
  | some 0, [], _, _, h, _, _, _ => by simp [areP] at h
  | some 0, .int _ :: _, _, _, h, _, _, _ => by simp [areP] at h
  | some 0, .sl :: _, [], _, h, _, _, _ => by simp [areP] at h
  | some (_ + 1), [], _, _, h, _, _, _ => by simp [areP] at h
  | some (_ + 1), .sl :: _, _, _, h, _, _, _ => by simp [areP] at h
  | some (_ + 1), .int _ :: _, [], _, h, _, _, _ => by simp [areP] at h
  | none, [], [], _ :: _, _, hl, _, _ => by simp at hl
  | none, .int _ :: _, _ :: _, [], _, hl, _, _ => by simp at hl
  | some 0, .sl :: _, _ :: _, [], _, hl, _, _ => by simp at hl
  | some (_ + 1), .int _ :: _, _ :: _, [], _, hl, _, _ => by simp at hl
theorem row_cells {P : Program} {w : World} {r : Reach} {b0 t : Nat} {v : Value} {ts : List Nat} (ha : aggB P t = some true) (hct : P.cellTypes P.depth t = some ts) (hn : P.cellsOf t = ts.length) (hv : Value.okWide P w r b0 t v) :
    ∃ cs : List Value, v = .agg cs.toArray ∧ cs.length = ts.length ∧ ∀ (i : Nat) (x : Value), cs[i]? = some x → ∃ u, ts[i]? = some u ∧ Cell.okWide P w r b0 u x := by
  have hv' : ∃ cs, v = .agg cs ∧ cs.size = P.cellsOf t ∧ Row.okWide P w r b0 t cs := by
    unfold aggB at ha
    unfold Value.okWide at hv
    cases hu : P.underlying t with
    | none => rw [hu] at ha; simp at ha
    | some u => rw [hu] at ha hv; cases u <;> simp at ha <;> exact hv
  obtain ⟨cs, rfl, hsz, ts', hct', _, hall⟩ := hv'
  rw [hct] at hct'; cases hct'
  refine ⟨cs.toList, by simp, by simp; omega, fun i x hx => ?_⟩
  have hi : i < cs.size := by have := (List.getElem?_eq_some_iff.1 hx).1; simpa using this
  obtain ⟨u, hu, hok⟩ := hall i x (by simpa using hx)
  rw [Nat.mod_eq_of_lt (by omega)] at hu
  exact ⟨u, hu, hok⟩
/-- Numbers alone. -/
theorem sfit_int {k : IntKind} {s v : Value} {l : List SA} {vs : List Value} {zs : List Int} (h : AS.fits (.int k) v) (t : SFit s l vs zs) : ∃ zs, SFit s (.one (.int k) :: l) (v :: vs) zs := by
  obtain ⟨n, rfl, hn⟩ := h
  exact ⟨_, .int hn t⟩
theorem pfit_ints {s : Value} {ks : List IntKind} {zs : List Int} (h : Fit ks zs) : PFit s (ks.map .int) (intsOf ks zs) zs := by
  induction h with
  | nil => exact .nil
  | cons a _ ih => exact .int a ih
theorem sfit_agg {ks : List IntKind} {s v : Value} {l : List SA} {vs : List Value} {zs : List Int} (h : AS.fits (.agg ks) v) (t : SFit s l vs zs) : ∃ zs, SFit s (.agg (ks.map .int) :: l) (v :: vs) zs := by
  obtain ⟨zs', hz, rfl⟩ := h
  exact ⟨_, .agg (pfit_ints hz) t⟩
section
variable {H : Type} {enc : TypeId × Value → H} {P : Program} {w : World} {base : Nat} {held : Bool}
/-- A struct one of whose fields is a slice of structs of numbers. -/
theorem stIn_of {t st e d q M : Nat} {fs : Array Field} {fd : Field} {ps : List PA} {ts : List Nat} {ks : List IntKind} {v : Value} {D : DataW H} {p : List MemPlace} {r : Reach} {b0 : Nat} (hu : P.underlying t = some (.struct fs)) (hq : fs[q]? = some fd) (hst : fd.type = st)
    (hsl : P.underlying st = some (.slice e)) (hct : P.cellTypes P.depth t = some ts) (hn : P.cellsOf t = ts.length) (hm : areP P st (some fd.offset) ps ts = true) (hpl : ps.length = ts.length) (hts : ts[fd.offset]? = some st) (h1 : P.cellsOf st = 1)
    (hk : intsT P d e = some ks) (hc : P.cellsOf e = ks.length) (h0 : 0 < ks.length) (hval : Value.okWide P w r b0 t v) (htr : DataW.Trod enc P w base (fun _ => true) held t v D p)
    (hb : ∀ n ∈ D.weights P t, n ≤ reachBytes) (hbytes : (M + 1) * P.bytesOf e > reachBytes) : ∃ cs s zs, v = .agg cs.toArray ∧ PFit s ps cs zs ∧ SlIn w ks M s := by
  have ha : aggB P t = some true := by unfold aggB; rw [hu]
  obtain ⟨cs, rfl, hcl, hcell⟩ := row_cells ha hct hn hval
  have ho : fd.offset < cs.length := by have := (List.getElem?_eq_some_iff.1 hts).1; omega
  obtain ⟨s, hs⟩ : ∃ s, cs[fd.offset]? = some s := ⟨cs[fd.offset], by simp [ho]⟩
  obtain ⟨zs, hz⟩ := areP_fit (s := s) hm (by omega) hcell (fun n hn => by cases hn; exact hs)
  refine ⟨cs, s, zs, rfl, hz, ?_⟩
  obtain ⟨u, hu2, hok⟩ := hcell _ _ hs
  rw [hts] at hu2; cases hu2
  obtain ⟨fuel, hf⟩ := htr
  have hf : DataW.trod enc P w base (fun _ => true) held fuel t cs = some (D, p) := hf
  obtain ⟨xs, n, _, hx, hlen, hxl, hfield⟩ := DataW.trod_struct hu hf
  have hq' := hfield q fd hq
  rw [hst, h1] at hq'
  have hone : (cs.drop fd.offset).take 1 = [s] := by
    rw [List.drop_eq_getElem_cons ho, List.take_succ_cons, List.take_zero]
    rw [List.getElem?_eq_getElem ho] at hs
    rw [Option.some.inj hs]
  rw [hone] at hq'
  have hqs : q < fs.size := (Array.getElem?_eq_some_iff.1 hq).1
  rw [List.getElem?_eq_getElem (by omega)] at hq'
  obtain ⟨D2, p2, hD2⟩ : ∃ D2 p2, xs[q]'(by omega) = (D2, p2) := ⟨_, _, rfl⟩
  rw [hD2] at hq'
  have hvs : Value.okWide P w r b0 st s := by unfold Value.okWide; rw [hsl]; exact hok
  obtain ⟨a0, len, cap, rfl⟩ := WideShapes.okWide_slice hsl hvs
  refine slIn_of hsl hk hc h0 hvs (D := D2) (p := p2) ⟨n, hq'⟩ fun el sp hd => ?_
  subst hd
  simp only [Prod.mk.injEq] at hx
  obtain ⟨hx1, _⟩ := hx
  have hw : (el.length + sp.length) * P.bytesOf e ≤ reachBytes := by
    refine hb _ ?_
    rw [hx1]
    simp only [DataW.weights, hu]
    refine DataW.weights_mem_each (j := q) (t := st) (d := .slice el sp) (by simp [hq, hst]) (by simp [hD2, show q < xs.length by omega]) _ (by simp [DataW.weights, hsl])
  refine Nat.not_lt.1 fun hgt => ?_
  have := Nat.mul_le_mul_right (P.bytesOf e) (show M + 1 ≤ el.length + sp.length by omega)
  omega
end

end Sx
end Go.Proofs.Ytmgiabehooghcaa
