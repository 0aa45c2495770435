/- Arguments in which one slice of structs of numbers stands: alone, or in a struct. -/
import Derived.Test.YtahfcfbmhdklbaaSyg
namespace Go.Proofs.Ytahfcfbmhdklbaa
namespace Sx
open Go.RowKit

/-! ### What is asked at the end: sums too -/
def goodE (bs : Bds) (g : Facts) (e : E) : Bool := proveC bs 8 g e || (prove bs 2 g e || (linT bs g (simpT bs g e) || refute bs g))
theorem goodE_ok {bs : Bds} {ρ : Val} (hb : bs.hold ρ) {g : Facts} {e : E} (hg : g.hold ρ) (h : goodE bs g e = true) : e.T ρ = true := by
  unfold goodE at h
  simp only [Bool.or_eq_true] at h
  rcases h with h | h | h | h
  · exact proveC_spec hb 8 _ _ hg h
  · exact prove_spec hb 2 _ _ hg h
  · have := linT_ok hb hg _ h
    rwa [simpT_T hb hg] at this
  · exact (refute_no hb hg h).elim
def allG (bs : Bds) : CT → Bool
  | .leaf r g => match r.upd, r.mv with | [], .c (.bool e) => goodE bs g e | _, _ => refute bs g && r.upd.isEmpty
  | .br _ _ t f => allG bs t && allG bs f
  | .dead => true
  | .fail _ => false
theorem allG_at {bs : Bds} {ρ : Val} (hb : bs.hold ρ) : ∀ {t : CT}, allG bs t = true → t.sure ρ → t.ok ρ ∧ ∀ r g, t.at ρ = some (r, g) → r.upd = [] ∧ ∃ e, r.mv = .c (.bool e) ∧ e.T ρ = true
  | .leaf r g, h, hs => by
    refine ⟨trivial, fun r' g' ha => ?_⟩
    simp only [CT.at, Option.some.injEq, Prod.mk.injEq] at ha
    obtain ⟨h1, h2⟩ := ha
    subst h1 h2
    simp only [allG] at h
    split at h
    · rename_i e hu he
      exact ⟨hu, e, he, goodE_ok hb hs h⟩
    · rw [Bool.and_eq_true] at h
      exact (refute_no hb hs h.1).elim
  | .br _ e t f, h, hs => by
    simp only [allG, Bool.and_eq_true] at h
    have hs2 := hs.2
    simp only [CT.ok, CT.at]
    by_cases hc : e.T ρ = true
    · rw [if_pos hc] at hs2
      simp only [if_pos hc]
      exact allG_at hb h.1 hs2
    · rw [if_neg hc] at hs2
      simp only [if_neg hc]
      exact allG_at hb h.2 hs2
  | .dead, _, hs => hs.elim
  | .fail _, h, _ => by simp [allG] at h
theorem lawG_start {P : Program} {bs : Bds} {call : Callee} (hc : Callee.Sound P bs call) (hs : Callee.Sure bs call) {f : Nat} {args : List MV} {vs : List Value} {S : St} {Γ : Ctx} {L : Nat → Prop} {fs : Facts} {w : World} (ha : ArgsRel Γ L args vs) (hS : S.rel Γ L w) (hL : ∀ j, L j → j < S.n) (hb : bs.hold Γ.ρ) (hf : fs.hold Γ.ρ)
    (h : allG bs (call f args S fs) = true) : Calls P f vs.toArray w fun e w' => e = .returned (.bool true) ∧ Below w.heap.size w w' := by
  obtain ⟨hok, hat⟩ := allG_at hb h (hs f args S fs Γ.ρ hb hf)
  refine (call_start hc ha hS hL hb hf hok fun r g hr => (hat r g hr).1).mono fun e w' hh => ?_
  obtain ⟨⟨v, Γ', r, g, rfl, h1, h2, h3⟩, hbel⟩ := hh
  obtain ⟨_, e, h4, h5⟩ := hat r g h1
  rw [h4] at h2
  refine ⟨?_, hbel⟩
  rw [MV.rel_c h2]
  simp only [MC.den, h3, h5]

/-! ### Pieces -/
inductive PA where
  | int (k : IntKind) | sl
inductive SA where
  | one (p : PA) | agg (l : List PA)
def PA.kinds : List PA → List IntKind
  | [] => []
  | .int k :: l => k :: PA.kinds l
  | .sl :: l => PA.kinds l
def PA.mcs : List PA → Nat → MC → List MC
  | [], _, _ => []
  | .int k :: l, i, m => .int k (.var i) :: PA.mcs l (i + 1) m
  | .sl :: l, i, m => m :: PA.mcs l i m
def SA.kinds : List SA → List IntKind
  | [] => []
  | .one p :: l => PA.kinds [p] ++ SA.kinds l
  | .agg ps :: l => PA.kinds ps ++ SA.kinds l
def SA.mvs : List SA → Nat → MC → List MV
  | [], _, _ => []
  | .one (.int k) :: l, i, m => .c (.int k (.var i)) :: SA.mvs l (i + 1) m
  | .one .sl :: l, i, m => .c m :: SA.mvs l i m
  | .agg ps :: l, i, m => .agg (PA.mcs ps i m) :: SA.mvs l (i + (PA.kinds ps).length) m
inductive PFit (s : Value) : List PA → List Value → List Int → Prop where
  | nil : PFit s [] [] []
  | int {k : IntKind} {z : Int} {l : List PA} {vs : List Value} {zs : List Int} (h : k.min ≤ z ∧ z ≤ k.max) (t : PFit s l vs zs) : PFit s (.int k :: l) (.int k z :: vs) (z :: zs)
  | sl {l : List PA} {vs : List Value} {zs : List Int} (t : PFit s l vs zs) : PFit s (.sl :: l) (s :: vs) zs
inductive SFit (s : Value) : List SA → List Value → List Int → Prop where
  | nil : SFit s [] [] []
  | int {k : IntKind} {z : Int} {l : List SA} {vs : List Value} {zs : List Int} (h : k.min ≤ z ∧ z ≤ k.max) (t : SFit s l vs zs) : SFit s (.one (.int k) :: l) (.int k z :: vs) (z :: zs)
  | sl {l : List SA} {vs : List Value} {zs : List Int} (t : SFit s l vs zs) : SFit s (.one .sl :: l) (s :: vs) zs
  | agg {ps : List PA} {cs : List Value} {z1 : List Int} {l : List SA} {vs : List Value} {zs : List Int} (h : PFit s ps cs z1) (t : SFit s l vs zs) : SFit s (.agg ps :: l) (.agg cs.toArray :: vs) (z1 ++ zs)
theorem PFit.fit {s : Value} {l : List PA} {vs : List Value} {zs : List Int} (h : PFit s l vs zs) : Fit (PA.kinds l) zs := by
  induction h with
  | nil => exact .nil
  | int h _ ih => exact .cons h ih
  | sl _ ih => exact ih
theorem SFit.fit {s : Value} {l : List SA} {vs : List Value} {zs : List Int} (h : SFit s l vs zs) : Fit (SA.kinds l) zs := by
  induction h with
  | nil => exact .nil
  | int h _ ih => exact .cons h ih
  | sl _ ih => exact ih
  | agg h _ ih => exact h.fit.append ih
theorem PFit.den {s : Value} {Γ : Ctx} {m : MC} (hm : m.den Γ = s) {l : List PA} {vs : List Value} {zs : List Int} (h : PFit s l vs zs) : ∀ i : Nat, (∀ j, j < zs.length → Γ.ρ.i (i + j) = zs.getD j 0) → densOf Γ (PA.mcs l i m) = vs := by
  induction h with
  | nil => intro i _; rfl
  | int h _ ih =>
    intro i hi
    have h0 := hi 0 (by simp)
    simp only [Nat.add_zero, List.getD_cons_zero] at h0
    have := ih (i + 1) fun j hj => by have := hi (j + 1) (by simpa using hj); rw [show i + 1 + j = i + (j + 1) from by omega, this]; simp
    simp only [densOf] at this
    simp only [PA.mcs, densOf, List.map_cons, MC.den, E.I, h0, this]
  | sl _ ih =>
    intro i hi
    have := ih i hi
    simp only [densOf] at this
    simp only [PA.mcs, densOf, List.map_cons, hm, this]
theorem PA.mcs_on {L : Nat → Prop} {m : MC} (hm : m.on L) : ∀ (l : List PA) (i : Nat), csOn L (PA.mcs l i m)
  | [], _ => fun x hx => absurd hx (by simp [PA.mcs])
  | .int k :: l, i => fun x hx => by
    simp only [PA.mcs, List.mem_cons] at hx
    rcases hx with rfl | hx
    · trivial
    · exact PA.mcs_on hm l (i + 1) x hx
  | .sl :: l, i => fun x hx => by
    simp only [PA.mcs, List.mem_cons] at hx
    rcases hx with rfl | hx
    · exact hm
    · exact PA.mcs_on hm l i x hx
theorem SFit.rel {s : Value} {Γ : Ctx} {L : Nat → Prop} {m : MC} (hm : m.den Γ = s) (ho : m.on L) {l : List SA} {vs : List Value} {zs : List Int} (h : SFit s l vs zs) : ∀ i : Nat, (∀ j, j < zs.length → Γ.ρ.i (i + j) = zs.getD j 0) → ArgsRel Γ L (SA.mvs l i m) vs := by
  induction h with
  | nil => intro i _; exact .nil
  | int h _ ih =>
    intro i hi
    have h0 := hi 0 (by simp)
    simp only [Nat.add_zero, List.getD_cons_zero] at h0
    exact .cons ⟨by simp only [MV.rel, MV.den, MC.den, E.I, h0], trivial⟩ (ih (i + 1) fun j hj => by have := hi (j + 1) (by simpa using hj); rw [show i + 1 + j = i + (j + 1) from by omega, this]; simp)
  | sl _ ih =>
    intro i hi
    exact .cons ⟨by simp only [MV.rel, MV.den, hm], ho⟩ (ih i hi)
  | agg h _ ih =>
    rename_i ps cs z1 l vs zs t
    intro i hi
    have hl := h.fit.length
    refine .cons ⟨?_, PA.mcs_on ho ps i⟩ (ih (i + (PA.kinds ps).length) fun j hj => ?_)
    · simp only [MV.rel, MV.den]
      rw [h.den hm i fun j hj => by rw [hi j (by simp; omega)]; simp [List.getElem?_append_left hj]]
    · rw [show i + (PA.kinds ps).length + j = i + ((PA.kinds ps).length + j) from by omega, hi ((PA.kinds ps).length + j) (by simp; omega)]
      simp only [List.getD_eq_getElem?_getD]
      rw [List.getElem?_append_right (by omega), ← hl, Nat.add_sub_cancel_left]

/-! ### From the types -/
def areP (P : Program) (st : Nat) : Option Nat → List PA → List Nat → Bool
  | none, [], [] => true
  | none, .int k :: l, t :: ts => isInt P k t && areP P st none l ts
  | some (n + 1), .int k :: l, t :: ts => isInt P k t && areP P st (some n) l ts
  | some 0, .sl :: l, t :: ts => Nat.beq t st && areP P st none l ts
  | _, _, _ => false
theorem areP_fit {P : Program} {w : World} {r : Reach} {b0 st : Nat} {s : Value} : ∀ {o : Option Nat} {ps : List PA} {ts : List Nat} {vs : List Value}, areP P st o ps ts = true → vs.length = ps.length →
    (∀ (i : Nat) (v : Value), vs[i]? = some v → ∃ u, ts[i]? = some u ∧ Cell.okWide P w r b0 u v) → (∀ n, o = some n → vs[n]? = some s) → ∃ zs, PFit s ps vs zs
  | none, [], [], [], _, _, _, _ => ⟨[], .nil⟩
  | none, .int k :: l, t :: ts, v :: vs, h, hl, hc, ho => by
    simp only [areP, Bool.and_eq_true] at h
    obtain ⟨u, hu, hok⟩ := hc 0 v rfl
    simp at hu; subst hu
    obtain ⟨n, rfl, hn⟩ := cell_int (isInt_eq h.1) hok
    obtain ⟨zs, hz⟩ := areP_fit (o := none) (vs := vs) h.2 (by simpa using hl) (fun i v hv => by simpa using hc (i + 1) v (by simpa using hv)) (fun n hn => by cases hn)
    exact ⟨n :: zs, .int hn hz⟩
  | some (n + 1), .int k :: l, t :: ts, v :: vs, h, hl, hc, ho => by
    simp only [areP, Bool.and_eq_true] at h
    obtain ⟨u, hu, hok⟩ := hc 0 v rfl
    simp at hu; subst hu
    obtain ⟨m, rfl, hn⟩ := cell_int (isInt_eq h.1) hok
    obtain ⟨zs, hz⟩ := areP_fit (o := some n) (vs := vs) h.2 (by simpa using hl) (fun i v hv => by simpa using hc (i + 1) v (by simpa using hv)) (fun q hq => by cases hq; simpa using ho (n + 1) rfl)
    exact ⟨m :: zs, .int hn hz⟩
  | some 0, .sl :: l, t :: ts, v :: vs, h, hl, hc, ho => by
    simp only [areP, Bool.and_eq_true] at h
    have := ho 0 rfl
    simp at this; subst this
    obtain ⟨zs, hz⟩ := areP_fit (o := none) (vs := vs) h.2 (by simpa using hl) (fun i v hv => by simpa using hc (i + 1) v (by simpa using hv)) (fun q hq => by cases hq)
    exact ⟨zs, .sl hz⟩
  | none, [], _ :: _, _, h, _, _, _ => by simp [areP] at h
  | none, .int _ :: _, [], _, h, _, _, _ => by simp [areP] at h
  | none, .sl :: _, _, _, h, _, _, _ => by simp [areP] at h
  | some 0, [], _, _, h, _, _, _ => by simp [areP] at h
  | some 0, .int _ :: _, _, _, h, _, _, _ => by simp [areP] at h
  | some 0, .sl :: _, [], _, h, _, _, _ => by simp [areP] at h
  | some (_ + 1), [], _, _, h, _, _, _ => by simp [areP] at h
  | some (_ + 1), .sl :: _, _, _, h, _, _, _ => by simp [areP] at h
  | some (_ + 1), .int _ :: _, [], _, h, _, _, _ => by simp [areP] at h
  | none, [], [], _ :: _, _, hl, _, _ => by simp at hl
  | none, .int _ :: _, _ :: _, [], _, hl, _, _ => by simp at hl
  | some 0, .sl :: _, _ :: _, [], _, hl, _, _ => by simp at hl
  | some (_ + 1), .int _ :: _, _ :: _, [], _, hl, _, _ => by simp at hl
theorem row_cells {P : Program} {w : World} {r : Reach} {b0 t : Nat} {v : Value} {ts : List Nat} (ha : aggB P t = some true) (hct : P.cellTypes P.depth t = some ts) (hn : P.cellsOf t = ts.length) (hv : Value.okWide P w r b0 t v) :
    ∃ cs : List Value, v = .agg cs.toArray ∧ cs.length = ts.length ∧ ∀ (i : Nat) (x : Value), cs[i]? = some x → ∃ u, ts[i]? = some u ∧ Cell.okWide P w r b0 u x := by
  have hv' : ∃ cs, v = .agg cs ∧ cs.size = P.cellsOf t ∧ Row.okWide P w r b0 t cs := by
    unfold aggB at ha
    unfold Value.okWide at hv
    cases hu : P.underlying t with
    | none => rw [hu] at ha; simp at ha
    | some u => rw [hu] at ha hv; cases u <;> simp at ha <;> exact hv
  obtain ⟨cs, rfl, hsz, ts', hct', _, hall⟩ := hv'
  rw [hct] at hct'; cases hct'
  refine ⟨cs.toList, by simp, by simp; omega, fun i x hx => ?_⟩
  have hi : i < cs.size := by have := (List.getElem?_eq_some_iff.1 hx).1; simpa using this
  obtain ⟨u, hu, hok⟩ := hall i x (by simpa using hx)
  rw [Nat.mod_eq_of_lt (by omega)] at hu
  exact ⟨u, hu, hok⟩
/-- Numbers alone. -/
theorem sfit_int {k : IntKind} {s v : Value} {l : List SA} {vs : List Value} {zs : List Int} (h : AS.fits (.int k) v) (t : SFit s l vs zs) : ∃ zs, SFit s (.one (.int k) :: l) (v :: vs) zs := by
  obtain ⟨n, rfl, hn⟩ := h
  exact ⟨_, .int hn t⟩
theorem pfit_ints {s : Value} {ks : List IntKind} {zs : List Int} (h : Fit ks zs) : PFit s (ks.map .int) (intsOf ks zs) zs := by
  induction h with
  | nil => exact .nil
  | cons a _ ih => exact .int a ih
theorem sfit_agg {ks : List IntKind} {s v : Value} {l : List SA} {vs : List Value} {zs : List Int} (h : AS.fits (.agg ks) v) (t : SFit s l vs zs) : ∃ zs, SFit s (.agg (ks.map .int) :: l) (v :: vs) zs := by
  obtain ⟨zs', hz, rfl⟩ := h
  exact ⟨_, .agg (pfit_ints hz) t⟩
section
variable {H : Type} {enc : TypeId × Value → H} {P : Program} {w : World} {base : Nat} {held : Bool}
/-- A struct one of whose fields is a slice of structs of numbers. -/
theorem stIn_of {t st e d q M : Nat} {fs : Array Field} {fd : Field} {ps : List PA} {ts : List Nat} {ks : List IntKind} {v : Value} {D : DataW H} {p : List MemPlace} {r : Reach} {b0 : Nat} (hu : P.underlying t = some (.struct fs)) (hq : fs[q]? = some fd) (hst : fd.type = st)
    (hsl : P.underlying st = some (.slice e)) (hct : P.cellTypes P.depth t = some ts) (hn : P.cellsOf t = ts.length) (hm : areP P st (some fd.offset) ps ts = true) (hpl : ps.length = ts.length) (hts : ts[fd.offset]? = some st) (h1 : P.cellsOf st = 1)
    (hk : intsT P d e = some ks) (hc : P.cellsOf e = ks.length) (h0 : 0 < ks.length) (hval : Value.okWide P w r b0 t v) (htr : DataW.Trod enc P w base (fun _ => true) held t v D p)
    (hb : ∀ n ∈ D.weights P t, n ≤ reachBytes) (hbytes : (M + 1) * P.bytesOf e > reachBytes) : ∃ cs s zs, v = .agg cs.toArray ∧ PFit s ps cs zs ∧ SlIn w ks M s := by
  have ha : aggB P t = some true := by unfold aggB; rw [hu]
  obtain ⟨cs, rfl, hcl, hcell⟩ := row_cells ha hct hn hval
  have ho : fd.offset < cs.length := by have := (List.getElem?_eq_some_iff.1 hts).1; omega
  obtain ⟨s, hs⟩ : ∃ s, cs[fd.offset]? = some s := ⟨cs[fd.offset], by simp [ho]⟩
  obtain ⟨zs, hz⟩ := areP_fit (s := s) hm (by omega) hcell (fun n hn => by cases hn; exact hs)
  refine ⟨cs, s, zs, rfl, hz, ?_⟩
  obtain ⟨u, hu2, hok⟩ := hcell _ _ hs
  rw [hts] at hu2; cases hu2
  obtain ⟨fuel, hf⟩ := htr
  have hf : DataW.trod enc P w base (fun _ => true) held fuel t cs = some (D, p) := hf
  obtain ⟨xs, n, _, hx, hlen, hxl, hfield⟩ := DataW.trod_struct hu hf
  have hq' := hfield q fd hq
  rw [hst, h1] at hq'
  have hone : (cs.drop fd.offset).take 1 = [s] := by
    rw [List.drop_eq_getElem_cons ho, List.take_succ_cons, List.take_zero]
    rw [List.getElem?_eq_getElem ho] at hs
    rw [Option.some.inj hs]
  rw [hone] at hq'
  have hqs : q < fs.size := (Array.getElem?_eq_some_iff.1 hq).1
  rw [List.getElem?_eq_getElem (by omega)] at hq'
  obtain ⟨D2, p2, hD2⟩ : ∃ D2 p2, xs[q]'(by omega) = (D2, p2) := ⟨_, _, rfl⟩
  rw [hD2] at hq'
  have hvs : Value.okWide P w r b0 st s := by unfold Value.okWide; rw [hsl]; exact hok
  obtain ⟨a0, len, cap, rfl⟩ := WideShapes.okWide_slice hsl hvs
  refine slIn_of hsl hk hc h0 hvs (D := D2) (p := p2) ⟨n, hq'⟩ fun el sp hd => ?_
  subst hd
  simp only [Prod.mk.injEq] at hx
  obtain ⟨hx1, _⟩ := hx
  have hw : (el.length + sp.length) * P.bytesOf e ≤ reachBytes := by
    refine hb _ ?_
    rw [hx1]
    simp only [DataW.weights, hu]
    refine DataW.weights_mem_each (j := q) (t := st) (d := .slice el sp) (by simp [hq, hst]) (by simp [hD2, show q < xs.length by omega]) _ (by simp [DataW.weights, hsl])
  refine Nat.not_lt.1 fun hgt => ?_
  have := Nat.mul_le_mul_right (P.bytesOf e) (show M + 1 ≤ el.length + sp.length by omega)
  omega
end

/-! ### A law -/
theorem L1_0 : L1 0 := rfl
theorem law_sl1 {P : Program} {E E0 : Env} {f n M : Nat} {args : List SA} {ks : List IntKind} (hm : P.follows .mixedOrders = true) (hE : E.Ok P) (hsum : Callee.Sound P E.bs E.sum) (hsure : Callee.Sure E.bs E.sum)
    (hE0 : E0.Ok P) (hsum0 : Callee.Sound P E0.bs E0.sum) (hsure0 : Callee.Sure E0.bs E0.sum) (hbs : E0.bs = E.bs)
    (pro : List Int → (Nat → Int) → Nat → Nat → Nat → Val) (hpro : ∀ zs A off len cap, Fit (SA.kinds args) zs → (pro zs A off len cap).i 91 = (off : Nat) ∧ (pro zs A off len cap).i 1 = (len : Nat) ∧ (pro zs A off len cap).i 90 = (cap : Nat) ∧ (pro zs A off len cap).a 0 = A ∧ ∀ j, j < zs.length → (pro zs A off len cap).i (2 + j) = zs.getD j 0)
    (hhold : ∀ zs A off len cap, Fit (SA.kinds args) zs → len ≤ M → PosIn ks A → E.bs.hold (pro zs A off len cap)) 
    (cases : List (List (Sx.E × Bool))) (hcover : ∀ zs A off len cap, 0 < len → len ≤ cap → Fit (SA.kinds args) zs → E.bs.hold (pro zs A off len cap) → ∃ c ∈ cases, Holds c (pro zs A off len cap))
    (cases0 : List (List (Sx.E × Bool))) (hcover0 : ∀ zs A off cap, Fit (SA.kinds args) zs → E.bs.hold (pro zs A off 0 cap) → ∃ c ∈ cases0, Holds c (pro zs A off 0 cap))
    (hrow : ∀ c ∈ cases, allG E.bs (callF P E (evF P E n) f (SA.mvs args 2 rowM1) (rowS ks (mkMul (.var 1) (.lit ks.length))) (factsOf c)) = true)
    (hnil : ∀ c ∈ cases0, allG E0.bs (callF P E0 (evF P E0 n) f (SA.mvs args 2 .nils) {} (factsOf c)) = true)
    (hempty : ∀ c ∈ cases0, allG E0.bs (callF P E0 (evF P E0 n) f (SA.mvs args 2 emptyM) goneS (factsOf c)) = true)
    {vs : List Value} {zs : List Int} {s : Value} {w : World} (hv : SFit s args vs zs) (hs : SlIn w ks M s) : Calls P f vs.toArray w fun e w' => e = .returned (.bool true) ∧ Below w.heap.size w w' := by
  have hf := hv.fit
  have hA0 : PosIn ks fun _ => 0 := fun _ => zero_in _
  cases hs with
  | nil =>
    have hb := hhold zs (fun _ => 0) 0 0 0 hf (by omega) hA0
    obtain ⟨c, hcm, hc⟩ := hcover0 zs (fun _ => 0) 0 0 hf hb
    obtain ⟨_, _, _, _, p5⟩ := hpro zs (fun _ => 0) 0 0 0 hf
    refine lawG_start (Γ := ⟨pro zs (fun _ => 0) 0 0 0, fun j => j, fun j => j⟩) (L := fun _ => False) (S := {}) (fast_sound hm hE0 hsum0 hsure0 n) (fast_sure hE0 hsure0 n) (hv.rel (m := .nils) rfl trivial 2 p5) (rel_none _ w) (fun _ h => h.elim) (by rw [hbs]; exact hb) (factsOf_hold hc) (hnil c hcm)
  | empty g off cap =>
    have hb := hhold zs (fun _ => 0) off 0 cap hf (by omega) hA0
    obtain ⟨c, hcm, hc⟩ := hcover0 zs (fun _ => 0) off cap hf hb
    obtain ⟨p1, _, p3, _, p5⟩ := hpro zs (fun _ => 0) off 0 cap hf
    refine lawG_start (Γ := Γ1 (pro zs (fun _ => 0) off 0 cap) g) (L := L1) (S := goneS) (fast_sound hm hE0 hsum0 hsure0 n) (fast_sure hE0 hsure0 n) (hv.rel (m := emptyM) (L := L1) ?_ L1_0 2 p5) (gone_rel _ w) (fun j hj => by rw [show j = 0 from hj]; show (0 : Nat) < 1; omega) (by rw [hbs]; exact hb) (factsOf_hold hc) (hempty c hcm)
    simp [MC.den, Cap.den, emptyM, Sx.E.I, Γ1, p1, p3]
  | row g off len cap A h0 hc' hl hA hr =>
    have hb := hhold zs A off len cap hf hl hA
    obtain ⟨c, hcm, hc⟩ := hcover zs A off len cap h0 hc' hf hb
    obtain ⟨p1, p2, p3, p4, p5⟩ := hpro zs A off len cap hf
    have hn : (mkMul (.var 1) (.lit ks.length)).I (pro zs A off len cap) = (len * ks.length : Nat) := by
      rw [mkMul_I]; simp only [Sx.E.I, p2]; exact (Int.natCast_mul _ _).symm
    refine lawG_start (Γ := Γ1 (pro zs A off len cap) g) (L := L1) (S := rowS ks (mkMul (.var 1) (.lit ks.length))) (fast_sound hm hE hsum hsure n) (fast_sure hE hsure n) (hv.rel (m := rowM1) (L := L1) ?_ L1_0 2 p5) (row_rel (by rw [p4]; exact hr) p1 hn) (fun j hj => by rw [show j = 0 from hj]; show (0 : Nat) < 1; omega) hb (factsOf_hold hc) (hrow c hcm)
    simp [MC.den, Cap.den, rowM1, Sx.E.I, Γ1, p1, p2, p3]
end Sx
end Go.Proofs.Ytahfcfbmhdklbaa
