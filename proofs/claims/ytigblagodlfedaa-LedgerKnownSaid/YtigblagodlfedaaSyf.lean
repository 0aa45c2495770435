/- A slice of structs of numbers that came in: nil, empty, or a row in a block; a law of one. -/
import Derived.Test.YtigblagodlfedaaSye
import Derived.Deep.Slices
import Derived.SizedLaws
import Derived.DataReads
namespace Go.Proofs.Ytigblagodlfedaa
namespace Sx
open Go.RowKit

/-! ### Types that are numbers throughout -/
def goT (rec : Nat → Option (List IntKind)) (P : Program) : Nat → List Field → Option (List IntKind)
  | _, [] => some []
  | off, f :: r =>
    match Nat.beq f.offset off, rec f.type with
    | true, some k1 => (match Nat.beq (P.cellsOf f.type) k1.length, goT rec P (off + k1.length) r with | true, some k2 => some (k1 ++ k2) | _, _ => none)
    | _, _ => none
def intsT (P : Program) : Nat → Nat → Option (List IntKind)
  | 0, _ => none
  | d + 1, t =>
    match P.underlying t with
    | some (.int k) => some [k]
    | some (.struct fs) => (match goT (intsT P d) P 0 fs.toList with | some ks => (match Nat.beq (P.cellsOf t) ks.length with | true => some ks | false => none) | none => none)
    | _ => none
theorem intsOf_append : ∀ {k1 k2 : List IntKind} {z1 z2 : List Int}, Fit k1 z1 → intsOf (k1 ++ k2) (z1 ++ z2) = intsOf k1 z1 ++ intsOf k2 z2
  | [], _, _, _, h => by cases h; rfl
  | k :: k1, k2, _, z2, h => by
    cases h with
    | cons a t => simp only [List.cons_append, intsOf, intsOf_append t]
theorem intsOf_length : ∀ {ks : List IntKind} {zs : List Int}, Fit ks zs → (intsOf ks zs).length = ks.length
  | [], _, h => by cases h; rfl
  | k :: ks, _, h => by cases h with | cons a t => simp [intsOf, intsOf_length t]
section
variable {H : Type} {enc : TypeId × Value → H} {P : Program} {w : World} {base : Nat} {spare : Nat → Bool} {held : Bool}
theorem goT_spec {rec : Nat → Option (List IntKind)} {cs : List Value} : ∀ (fs : List Field) (off : Nat) (ks : List IntKind), goT rec P off fs = some ks →
    (∀ f ∈ fs, ∀ k1, rec f.type = some k1 → ∃ zs, Fit k1 zs ∧ (cs.drop f.offset).take (P.cellsOf f.type) = intsOf k1 zs) → ∃ zs, Fit ks zs ∧ (cs.drop off).take ks.length = intsOf ks zs
  | [], off, ks, h, _ => by simp only [goT, Option.some.injEq] at h; subst h; exact ⟨[], .nil, by simp [intsOf]⟩
  | f :: r, off, ks, h, hf => by
    unfold goT at h
    split at h
    · rename_i k1 ho hk1
      split at h
      · rename_i k2 hc hk2
        cases h
        have ho := Nat.eq_of_beq_eq_true ho
        have hc := Nat.eq_of_beq_eq_true hc
        obtain ⟨z1, a1, a2⟩ := hf f (by simp) k1 hk1
        obtain ⟨z2, b1, b2⟩ := goT_spec r (off + k1.length) k2 hk2 fun f hm => hf f (by simp [hm])
        refine ⟨z1 ++ z2, a1.append b1, ?_⟩
        rw [intsOf_append a1, ← a2, ← b2, hc, ho, List.length_append, List.take_add, List.drop_drop]
      · cases h
    · cases h
theorem ints_trod : ∀ (d : Nat) {t : Nat} {ks : List IntKind} {fuel : Nat} {cs : List Value} {x : DataW H × List MemPlace}, intsT P d t = some ks → DataW.trod enc P w base spare held fuel t cs = some x → ∃ zs, Fit ks zs ∧ cs = intsOf ks zs
  | 0, _, _, _, _, _, h, _ => by simp [intsT] at h
  | d + 1, t, ks, fuel, cs, x, h, ht => by
    unfold intsT at h
    split at h
    · rename_i k hu
      cases h
      obtain ⟨n, rfl, _, hwf⟩ := DataW.trod_int hu ht
      refine ⟨[n], .cons ?_ .nil, rfl⟩
      simpa [Lit.wf] using hwf
    · rename_i fs hu
      split at h
      · rename_i ks' hg
        split at h
        · rename_i hc
          cases h
          have hc := Nat.eq_of_beq_eq_true hc
          obtain ⟨xs, n, _, _, hlen, hxl, hf⟩ := DataW.trod_struct hu ht
          obtain ⟨zs, a1, a2⟩ := goT_spec (cs := cs) fs.toList 0 ks hg fun f hm k1 hk1 => by
            obtain ⟨i, hi⟩ := List.getElem?_of_mem hm
            have hi' : fs[i]? = some f := by simpa using hi
            have h1 := hf i f hi'
            have hil : i < fs.size := (Array.getElem?_eq_some_iff.1 hi').1
            rw [List.getElem?_eq_getElem (by omega)] at h1
            exact ints_trod d hk1 h1
          refine ⟨zs, a1, ?_⟩
          rw [List.drop_zero, List.take_of_length_le (by omega)] at a2
          exact a2
        · cases h
      · cases h
    · cases h

/-! ### A slice that came in -/
/-- Each place of a row holds a number of its kind. -/
def PosIn (ks : List IntKind) (A : Nat → Int) : Prop := ∀ n, (ks.getD (n % ks.length) .u8).min ≤ A n ∧ A n ≤ (ks.getD (n % ks.length) .u8).max
theorem PosIn.one {ks : List IntKind} {A : Nat → Int} (h : PosIn ks A) (h0 : 0 < ks.length) (n : Nat) : ∃ k ∈ ks, k.min ≤ A n ∧ A n ≤ k.max := by
  have hm := Nat.mod_lt n h0
  refine ⟨_, ?_, h n⟩
  simp [hm]
inductive SlIn (w : World) (ks : List IntKind) (M : Nat) : Value → Prop where
  | nil : SlIn w ks M (.slice none 0 0)
  | empty (g off cap : Nat) : SlIn w ks M (.slice (some ⟨g, off, none⟩) 0 cap)
  | row (g off len cap : Nat) (A : Nat → Int) (h0 : 0 < len) (hc : len ≤ cap) (hl : len ≤ M) (hA : PosIn ks A) (hr : RowIn w g off ks (len * ks.length) A) : SlIn w ks M (.slice (some ⟨g, off, none⟩) len cap)
theorem intsOf_get : ∀ {ks : List IntKind} {zs : List Int} (j : Nat), Fit ks zs → j < ks.length → (intsOf ks zs)[j]? = some (.int (ks.getD j .u8) (zs.getD j 0)) ∧ (ks.getD j .u8) ∈ ks ∧ (ks.getD j .u8).min ≤ zs.getD j 0 ∧ zs.getD j 0 ≤ (ks.getD j .u8).max
  | [], _, j, h, hj => by simp at hj
  | k :: ks, _, j, h, hj => by
    cases h with
    | cons a t =>
      rcases j with _ | j
      · simp [intsOf]; exact a
      · simp only [List.length_cons] at hj
        obtain ⟨h1, h2, h3⟩ := intsOf_get j t (by omega)
        simp only [intsOf, List.getElem?_cons_succ, List.getD_cons_succ, List.mem_cons]
        exact ⟨h1, .inr h2, h3⟩
/-- What a cell holds, as a number. -/
def cellZ (w : World) (g n : Nat) : Int := match w.cell? ⟨g, n, none⟩ with | some (.int _ z) => z | _ => 0
theorem zero_in (k : IntKind) : k.min ≤ 0 ∧ 0 ≤ k.max := by cases k <;> decide
theorem slIn_of {t e d M : Nat} {ks : List IntKind} {v : Value} {D : DataW H} {p : List MemPlace} {r : Reach} {b0 : Nat} (ht : P.underlying t = some (.slice e)) (hk : intsT P d e = some ks) (hc : P.cellsOf e = ks.length) (h0 : 0 < ks.length)
    (hval : Value.okWide P w r b0 t v) (htr : DataW.Trod enc P w base (fun _ => true) held t v D p) (hb : ∀ el sp, D = .slice el sp → el.length + sp.length ≤ M) : SlIn w ks M v := by
  obtain ⟨a0, len, cap, rfl⟩ := WideShapes.okWide_slice ht hval
  have hspot : ∀ a, a0 = some a → a.spot = none := fun a ha => by
    subst ha
    simp only [Value.okWide, ht, Cell.okWide, Cell.ok] at hval
    exact hval.2.2.2.1
  obtain ⟨fuel, hf⟩ := htr
  have hf : DataW.trod enc P w base (fun _ => true) held fuel t [.slice a0 len cap] = some (D, p) := hf
  rcases Deep.open_slice ht hf with ⟨h1, _⟩ | ⟨a, len', cap', m, n, Dl, Pl, h1, hbase, hl, hmx, hm, hx, hel⟩
  · simp at h1; obtain ⟨rfl, rfl, rfl⟩ := h1; exact .nil
  · simp at h1
    obtain ⟨rfl, rfl, rfl⟩ := h1
    simp only [if_true] at hm
    rw [hm] at hx hel
    clear hm
    have hsp := hspot a rfl
    obtain ⟨g, off, sp⟩ := a
    simp only at hsp
    subst hsp
    by_cases hl0 : len = 0
    · subst hl0; exact .empty g off cap
    simp only [Prod.mk.injEq] at hx
    have hcap := hb _ _ hx.1
    simp only [List.length_map, List.length_range] at hcap
    -- each cell
    have cellk : ∀ i j, i < cap → j < ks.length → ∃ z, w.cell? ⟨g, off + (i * ks.length + j), none⟩ = some (.int (ks.getD j .u8) z) ∧ (ks.getD j .u8) ∈ ks ∧ (ks.getD j .u8).min ≤ z ∧ z ≤ (ks.getD j .u8).max := fun i j hi hj => by
      obtain ⟨cs', hcs, htd⟩ := hel i hi
      obtain ⟨zs, hz, rfl⟩ := ints_trod d hk htd
      obtain ⟨_, hlen, hget⟩ := World.cells?_some hcs
      obtain ⟨g1, g2, g3⟩ := intsOf_get j hz hj
      have := hget j (by rw [hc]; exact hj)
      rw [g1, hc, Addr.add_mid, Addr.add_mid, Nat.add_assoc] at this
      exact ⟨_, this, g2, g3⟩
    have cellr : ∀ q, q < cap * ks.length → ∃ z, w.cell? ⟨g, off + q, none⟩ = some (.int (ks.getD (q % ks.length) .u8) z) ∧ (ks.getD (q % ks.length) .u8) ∈ ks ∧ (ks.getD (q % ks.length) .u8).min ≤ z ∧ z ≤ (ks.getD (q % ks.length) .u8).max := fun q hq => by
      have := cellk (q / ks.length) (q % ks.length) (by rw [Nat.div_lt_iff_lt_mul h0]; exact hq) (Nat.mod_lt _ h0)
      rw [show q / ks.length * ks.length + q % ks.length = q from by rw [Nat.mul_comm]; exact Nat.div_add_mod q ks.length] at this
      exact this
    have hle : len * ks.length ≤ cap * ks.length := Nat.mul_le_mul_right _ hl
    have hpos : 0 < len * ks.length := Nat.mul_pos (by omega) h0
    -- the block
    obtain ⟨z0, hz0, _⟩ := cellr 0 (by omega)
    have hblk : ∃ cs tt fr, w.heap[g]? = some (.cells cs tt fr) := by
      unfold World.cell? at hz0
      split at hz0
      · exact ⟨_, _, _, by assumption⟩
      · cases hz0
    obtain ⟨cs, tt, fr, hh⟩ := hblk
    have hcell : ∀ q, q < cap * ks.length → cs[off + q]? = some (.int (ks.getD (q % ks.length) .u8) (cellZ w g (off + q))) ∧ ((ks.getD (q % ks.length) .u8).min ≤ cellZ w g (off + q) ∧ cellZ w g (off + q) ≤ (ks.getD (q % ks.length) .u8).max) := fun q hq => by
      obtain ⟨z, h1, _, h3⟩ := cellr q hq
      have hz : cellZ w g (off + q) = z := by unfold cellZ; rw [h1]
      rw [hz]
      refine ⟨?_, h3⟩
      rw [← cell_of_row w g (off + q) cs tt fr hh]; exact h1
    refine .row g off len cap (fun q => if q < cap * ks.length then cellZ w g (off + q) else 0) (by omega) hl (by omega) (fun q => ?_) ⟨cs, tt, fr, hh, ?_, fun q hq => ?_⟩
    · by_cases hq : q < cap * ks.length
      · simp only [if_pos hq]; exact (hcell q hq).2
      · simp only [if_neg hq]; exact zero_in _
    · have := (hcell (len * ks.length - 1) (by omega)).1
      have := (Array.getElem?_eq_some_iff.1 this).1
      omega
    · rw [if_pos (by omega)]; exact (hcell q (by omega)).1
end

/-! ### A law of one slice -/
theorem law_sl {P : Program} {f : Nat} {ks : List IntKind} {w : World} (hks : 0 < ks.length) (hn : Calls P f #[.slice none 0 0] w fun e w' => e = .returned (.bool true) ∧ Below w.heap.size w w')
    (he : ∀ g off cap : Nat, Calls P f #[.slice (some ⟨g, off, none⟩) 0 cap] w fun e w' => e = .returned (.bool true) ∧ Below w.heap.size w w')
    (hr : ∀ (g off len cap : Nat) (A : Nat → Int), 0 < len → len ≤ cap → len ≤ 70368744177663 → (∀ n, ∃ k ∈ ks, k.min ≤ A n ∧ A n ≤ k.max) → RowIn w g off ks (len * ks.length) A →
      Calls P f #[.slice (some ⟨g, off, none⟩) len cap] w fun e w' => e = .returned (.bool true) ∧ Below w.heap.size w w') {v : Value} (hv : SlIn w ks 70368744177663 v) : Calls P f #[v] w fun e w' => e = .returned (.bool true) ∧ Below w.heap.size w w' := by
  cases hv with
  | nil => exact hn
  | empty g off cap => exact he g off cap
  | row g off len cap A h0 hc hl hA hrow => exact hr g off len cap A h0 hc hl (hA.one hks) hrow
theorem sl_nil {P : Program} {E : Env} {f n : Nat} (hm : P.follows .mixedOrders = true) (hE : E.Ok P) (hsum : Callee.Sound P E.bs E.sum) (hsure : Callee.Sure E.bs E.sum) (hb : ∃ ρ, E.bs.hold ρ)
    (h : allTrueU E.bs (callF P E (evF P E n) f [.c .nils] {} []) = true) (w : World) : Calls P f #[.slice none 0 0] w fun e w' => e = .returned (.bool true) ∧ Below w.heap.size w w' := by
  obtain ⟨ρ, hb⟩ := hb
  exact law_start (Γ := ⟨ρ, fun j => j, fun j => j⟩) (vs := [.slice none 0 0]) (fast_sound hm hE hsum hsure n) (fast_sure hE hsure n) (.cons ⟨show MV.rel _ (MV.c MC.nils) _ from rfl, trivial⟩ .nil) (rel_none _ w) (fun _ h => h.elim) hb (fun p hp => absurd hp (by simp)) h
theorem sl_empty {P : Program} {E : Env} {f n : Nat} (hm : P.follows .mixedOrders = true) (hE : E.Ok P) (hsum : Callee.Sound P E.bs E.sum) (hsure : Callee.Sure E.bs E.sum) (pro : Nat → Nat → Val) (hpro : ∀ off cap, (pro off cap).i 91 = (off : Nat) ∧ (pro off cap).i 90 = (cap : Nat) ∧ E.bs.hold (pro off cap))
    (h : allTrueU E.bs (callF P E (evF P E n) f [.c emptyM] goneS (factsOf [(.bin .lt (.var 91) (.lit 0), false), (.bin .lt (.var 90) (.lit 0), false)])) = true) (w : World) (g off cap : Nat) : Calls P f #[.slice (some ⟨g, off, none⟩) 0 cap] w fun e w' => e = .returned (.bool true) ∧ Below w.heap.size w w' := by
  obtain ⟨h1, h2, hb⟩ := hpro off cap
  refine law_start (Γ := Γ1 (pro off cap) g) (L := L1) (S := goneS) (vs := [.slice (some ⟨g, off, none⟩) 0 cap]) (fast_sound hm hE hsum hsure n) (fast_sure hE hsure n) ?_ (gone_rel _ w) (fun j hj => by rw [show j = 0 from hj]; show (0 : Nat) < 1; omega) hb (factsOf_hold (holds_cons ?_ (holds_cons ?_ holds_nil))) h
  · refine .cons ⟨?_, ?_⟩ .nil
    · simp [MV.rel, MV.den, MC.den, Cap.den, emptyM, Sx.E.I, Γ1, h1, h2]
    · show L1 0; rfl
  · simp only [Sx.E.T, Sx.E.I, Γ1, h1, decide_eq_false_iff_not]; omega
  · simp only [Sx.E.T, Sx.E.I, Γ1, h2, decide_eq_false_iff_not]; omega
theorem sl_row {P : Program} {E : Env} {f n : Nat} {ks : List IntKind} (hm : P.follows .mixedOrders = true) (hE : E.Ok P) (hsum : Callee.Sound P E.bs E.sum) (hsure : Callee.Sure E.bs E.sum)
    (pro : (Nat → Int) → Nat → Nat → Nat → Val) (hpro : ∀ A off len cap, (pro A off len cap).i 91 = (off : Nat) ∧ (pro A off len cap).i 1 = (len : Nat) ∧ (pro A off len cap).i 90 = (cap : Nat) ∧ (pro A off len cap).a 0 = A)
    (hhold : ∀ A off len cap, 0 < len → len ≤ cap → len ≤ 70368744177663 → (∀ n, ∃ k ∈ ks, k.min ≤ A n ∧ A n ≤ k.max) → E.bs.hold (pro A off len cap))
    (cases : List (List (Sx.E × Bool))) (hcover : ∀ A off len cap, 0 < len → len ≤ cap → E.bs.hold (pro A off len cap) → ∃ c ∈ cases, Holds c (pro A off len cap))
    (h : ∀ c ∈ cases, allTrueU E.bs (callF P E (evF P E n) f [.c rowM1] (rowS ks (mkMul (.var 1) (.lit ks.length))) (factsOf c)) = true) (w : World) (g off len cap : Nat) (A : Nat → Int) (h0 : 0 < len) (hc : len ≤ cap) (hl : len ≤ 70368744177663)
    (hA : ∀ n, ∃ k ∈ ks, k.min ≤ A n ∧ A n ≤ k.max) (hrow : RowIn w g off ks (len * ks.length) A) : Calls P f #[.slice (some ⟨g, off, none⟩) len cap] w fun e w' => e = .returned (.bool true) ∧ Below w.heap.size w w' := by
  have hb := hhold A off len cap h0 hc hl hA
  obtain ⟨p0, p1, p2, p3⟩ := hpro A off len cap
  obtain ⟨c, hcm, hch⟩ := hcover A off len cap h0 hc hb
  have hn : (mkMul (.var 1) (.lit ks.length)).I (pro A off len cap) = (len * ks.length : Nat) := by
    rw [mkMul_I]; simp only [Sx.E.I, p1]; exact (Int.natCast_mul _ _).symm
  refine law_start (Γ := Γ1 (pro A off len cap) g) (L := L1) (S := rowS ks (mkMul (.var 1) (.lit ks.length))) (vs := [.slice (some ⟨g, off, none⟩) len cap]) (fast_sound hm hE hsum hsure n) (fast_sure hE hsure n) ?_ (row_rel (by rw [p3]; exact hrow) p0 hn) (fun j hj => by rw [show j = 0 from hj]; show (0 : Nat) < 1; omega) hb
    (factsOf_hold hch) (h c hcm)
  refine .cons ⟨?_, ?_⟩ .nil
  · simp [MV.rel, MV.den, MC.den, Cap.den, rowM1, Sx.E.I, Γ1, p0, p1, p2]
  · show L1 0; rfl

/-! ### All of a row, one by one -/
def eachS (slot : Nat) (n : E) : LSpec where
  M := 100
  tpl := [(slot, .c (.int .i64 v100))]
  ini := { i := [(100, .lit 0)] }
  hfs := headF n
  ways := [{ tests := [(.bin .lt v100 n, true)], σ := { i := [(100, .bin .add v100 (.lit 1))] } },
    { tests := [(.bin .lt v100 n, false)], ex := .exit 0, kd := .out, σ := { i := [(100, v100)] }, fin := { i := [(100, n)] } }]
theorem eachS_good {bs : Bds} {slot : Nat} {n : E} (hsame : ∀ ρ v, SameB ⟨100, [], [], []⟩ v ρ → bs.hold ρ → bs.hold v) (hu : n.under ⟨100, [], [], []⟩ = true) (hn : ∀ ρ, bs.hold ρ → 0 ≤ n.I ρ ∧ n.I ρ ≤ 70368744177663) :
    Good bs (eachS slot n) (fun ρ v => 0 ≤ v.i 100 ∧ v.i 100 ≤ n.I ρ) (fun ρ v => (n.I ρ - v.i 100).toNat) where
  start ρ hb _ := ⟨Int.le_refl _, (hn ρ hb).1⟩
  head ρ v hb hp hs hJ := by
    have hn := hn ρ hb
    have hnv := (below_eq hs n hu).1
    refine ⟨holds_cons ?_ (holds_cons ?_ (holds_cons ?_ holds_nil)), hsame ρ v hs hb⟩ <;> simp only [E.T, v100, E.I, hnv, decide_eq_false_iff_not, decide_eq_true_eq] <;> omega
  next i w hw hkd ρ v hb hp hs hJ ht := by
    have hnv := (below_eq hs n hu).1
    rcases i with _ | _ | i
    · simp only [eachS, List.getElem?_cons_zero, Option.some.injEq] at hw
      subst hw
      have a1 := ht _ List.mem_cons_self
      simp only [E.T, v100, E.I, hnv, decide_eq_true_eq] at a1
      refine ⟨⟨?_, ?_⟩, ?_⟩
      · show 0 ≤ v.i 100 + 1; omega
      · show v.i 100 + 1 ≤ _; omega
      · show (n.I ρ - (v.i 100 + 1)).toNat < (n.I ρ - v.i 100).toNat
        omega
    · simp only [eachS, List.getElem?_cons_zero, List.getElem?_cons_succ, Option.some.injEq] at hw; subst hw; cases hkd
    · simp [eachS] at hw
  dead i w hw hkd := by
    rcases i with _ | _ | i
    · simp only [eachS, List.getElem?_cons_zero, Option.some.injEq] at hw; subst hw; cases hkd
    · simp only [eachS, List.getElem?_cons_zero, List.getElem?_cons_succ, Option.some.injEq] at hw; subst hw; cases hkd
    · simp [eachS] at hw
  out i w hw hkd ρ v hb hp hs hJ ht := by
    have hnv := (below_eq hs n hu).1
    rcases i with _ | _ | i
    · simp only [eachS, List.getElem?_cons_zero, Option.some.injEq] at hw; subst hw; cases hkd
    · simp only [eachS, List.getElem?_cons_zero, List.getElem?_cons_succ, Option.some.injEq] at hw
      subst hw
      have a1 := ht _ List.mem_cons_self
      simp only [E.T, v100, E.I, hnv, decide_eq_false_iff_not] at a1
      refine ⟨?_, ⟨fun q hq => ?_, fun q hq => absurd hq (by simp), fun q hq => absurd hq (by simp)⟩⟩
      · simp only [eachS, selIx, Sx.E.T, if_true]
      · simp only [List.mem_cons, List.not_mem_nil, or_false] at hq
        subst hq
        show v.i 100 = n.I ρ
        omega
    · simp [eachS] at hw
  fin ρ hb hp := by
    simp only [eachS, FactsOk, Sx.E.T, if_true]
    exact holds_nil
end Sx
end Go.Proofs.Ytigblagodlfedaa
