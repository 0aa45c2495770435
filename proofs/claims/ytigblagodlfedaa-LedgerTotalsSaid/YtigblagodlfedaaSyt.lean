/- Functions of numbers, told case by case; types that are numbers throughout. -/
import Derived.Test.YtigblagodlfedaaSxz
import Derived.Deep.Slices
import Derived.SizedLaws
import Derived.DataReads
namespace Go.Proofs.Ytigblagodlfedaa
namespace Sx
open Go.RowKit

def Holds (l : List (E × Bool)) (ρ : Val) : Prop := ∀ p ∈ l, p.1.T ρ = p.2

theorem holds_cons {p : E × Bool} {l : List (E × Bool)} {ρ : Val} (h : p.1.T ρ = p.2) (t : Holds l ρ) : Holds (p :: l) ρ := forall_cons h t
theorem holds_nil {ρ : Val} : Holds [] ρ := forall_nil

theorem call_start {P : Program} {bs : Bds} {call : Callee} (hc : Callee.Sound P bs call) {f : Nat} {args : List MV} {vs : List Value} {S : St} {Γ : Ctx} {L : Nat → Prop} {fs : Facts} {w : World} (ha : ArgsRel Γ L args vs) (hS : S.rel Γ L w) (hL : ∀ j, L j → j < S.n) (hb : bs.hold Γ.ρ) (hf : fs.hold Γ.ρ)
    (hok : (call f args S fs).ok Γ.ρ) (hu : ∀ r g, (call f args S fs).at Γ.ρ = some (r, g) → r.upd = []) :
    Calls P f vs.toArray w fun e w' => (∃ v Γ' r g, e = .returned v ∧ (call f args S fs).at Γ.ρ = some (r, g) ∧ r.mv.rel Γ' v ∧ Γ'.ρ = Γ.ρ) ∧ Below w.heap.size w w' := by
  obtain ⟨_, h⟩ := hc L f args vs S fs Γ w ha hS hL hb hf hok
  refine h.mono fun e w' hh => ?_
  obtain ⟨v, Γ', r, g, rfl, h1, h2, h3⟩ := hh
  have := hu r g h1
  exact ⟨⟨v, Γ', r, g, rfl, h1, h2, h3.ρ⟩, h3.os, h3.tape, h3.output, h3.size, fun k hk => h3.keep k hk fun p hp => by rw [this] at hp; simp at hp⟩
/-! ### Types that are numbers throughout -/
def goT (rec : Nat → Option (List IntKind)) (P : Program) : Nat → List Field → Option (List IntKind)
  | _, [] => some []
  | off, f :: r =>
    match Nat.beq f.offset off, rec f.type with
    | true, some k1 => (match Nat.beq (P.cellsOf f.type) k1.length, goT rec P (off + k1.length) r with | true, some k2 => some (k1 ++ k2) | _, _ => none)
    | _, _ => none
def intsT (P : Program) : Nat → Nat → Option (List IntKind)
  | 0, _ => none
  | d + 1, t =>
    match P.underlying t with
    | some (.int k) => some [k]
    | some (.struct fs) => (match goT (intsT P d) P 0 fs.toList with | some ks => (match Nat.beq (P.cellsOf t) ks.length with | true => some ks | false => none) | none => none)
    | _ => none
theorem intsOf_append : ∀ {k1 k2 : List IntKind} {z1 z2 : List Int}, Fit k1 z1 → intsOf (k1 ++ k2) (z1 ++ z2) = intsOf k1 z1 ++ intsOf k2 z2
  | [], _, _, _, h => by cases h; rfl
  | k :: k1, k2, _, z2, h => by
    cases h with
    | cons a t => simp only [List.cons_append, intsOf, intsOf_append t]
theorem intsOf_length : ∀ {ks : List IntKind} {zs : List Int}, Fit ks zs → (intsOf ks zs).length = ks.length
  | [], _, h => by cases h; rfl
  | k :: ks, _, h => by cases h with | cons a t => simp [intsOf, intsOf_length t]
section
variable {H : Type} {enc : TypeId × Value → H} {P : Program} {w : World} {base : Nat} {spare : Nat → Bool} {held : Bool}
theorem goT_spec {rec : Nat → Option (List IntKind)} {cs : List Value} : ∀ (fs : List Field) (off : Nat) (ks : List IntKind), goT rec P off fs = some ks →
    (∀ f ∈ fs, ∀ k1, rec f.type = some k1 → ∃ zs, Fit k1 zs ∧ (cs.drop f.offset).take (P.cellsOf f.type) = intsOf k1 zs) → ∃ zs, Fit ks zs ∧ (cs.drop off).take ks.length = intsOf ks zs
  | [], off, ks, h, _ => by simp only [goT, Option.some.injEq] at h; subst h; exact ⟨[], .nil, by simp [intsOf]⟩
  | f :: r, off, ks, h, hf => by
    unfold goT at h
    split at h
    · rename_i k1 ho hk1
      split at h
      · rename_i k2 hc hk2
        cases h
        have ho := Nat.eq_of_beq_eq_true ho
        have hc := Nat.eq_of_beq_eq_true hc
        obtain ⟨z1, a1, a2⟩ := hf f (by simp) k1 hk1
        obtain ⟨z2, b1, b2⟩ := goT_spec r (off + k1.length) k2 hk2 fun f hm => hf f (by simp [hm])
        refine ⟨z1 ++ z2, a1.append b1, ?_⟩
        rw [intsOf_append a1, ← a2, ← b2, hc, ho, List.length_append, List.take_add, List.drop_drop]
      · cases h
    · cases h
theorem ints_trod : ∀ (d : Nat) {t : Nat} {ks : List IntKind} {fuel : Nat} {cs : List Value} {x : DataW H × List MemPlace}, intsT P d t = some ks → DataW.trod enc P w base spare held fuel t cs = some x → ∃ zs, Fit ks zs ∧ cs = intsOf ks zs
  | 0, _, _, _, _, _, h, _ => by simp [intsT] at h
  | d + 1, t, ks, fuel, cs, x, h, ht => by
    unfold intsT at h
    split at h
    · rename_i k hu
      cases h
      obtain ⟨n, rfl, _, hwf⟩ := DataW.trod_int hu ht
      refine ⟨[n], .cons ?_ .nil, rfl⟩
      simpa [Lit.wf] using hwf
    · rename_i fs hu
      split at h
      · rename_i ks' hg
        split at h
        · rename_i hc
          cases h
          have hc := Nat.eq_of_beq_eq_true hc
          obtain ⟨xs, n, _, _, hlen, hxl, hf⟩ := DataW.trod_struct hu ht
          obtain ⟨zs, a1, a2⟩ := goT_spec (cs := cs) fs.toList 0 ks hg fun f hm k1 hk1 => by
            obtain ⟨i, hi⟩ := List.getElem?_of_mem hm
            have hi' : fs[i]? = some f := by simpa using hi
            have h1 := hf i f hi'
            have hil : i < fs.size := (Array.getElem?_eq_some_iff.1 hi').1
            rw [List.getElem?_eq_getElem (by omega)] at h1
            exact ints_trod d hk1 h1
          refine ⟨zs, a1, ?_⟩
          rw [List.drop_zero, List.take_of_length_le (by omega)] at a2
          exact a2
        · cases h
      · cases h
    · cases h

end
/-! ### Functions of numbers, case by case -/
def linC (bs : Bds) (g : Facts) (a b : MC) : Bool :=
  match a, b with
  | .int k x, .int k' y => kbeq k k' && (E.beq x y || (match mkEq bs g x y with | .bl true => true | _ => false) || linT bs g (.bin .eq x y))
  | .bool x, .bool y => E.beq (settle g (simpT bs g x)) y
  | _, _ => false
theorem linC_den {bs : Bds} {g : Facts} {Γ : Ctx} (hb : bs.hold Γ.ρ) (hg : g.hold Γ.ρ) {a b : MC} (h : linC bs g a b = true) (Γ' : Ctx) (hΓ : Γ'.ρ = Γ.ρ) : a.den Γ' = b.den Γ := by
  unfold linC at h
  split at h
  · rename_i k x k' y
    rw [Bool.and_eq_true] at h
    have hk := kbeq_eq h.1
    subst hk
    have h2 := h.2
    rw [Bool.or_eq_true, Bool.or_eq_true] at h2
    have he : x.I Γ.ρ = y.I Γ.ρ := by
      rcases h2 with (h2 | h2) | h2
      · rw [E.eq_of h2]
      · have := mkEq_T hb hg x y
        split at h2
        · rename_i he; rw [he] at this; simpa [E.T] using this.symm
        · cases h2
      · simpa [E.T] using linT_ok hb hg _ h2
    simp only [MC.den, hΓ, he]
  · rename_i x y
    have h1 := E.eq_of h
    have h2 := settle_T hg (simpT bs g x)
    rw [simpT_T hb hg, h1] at h2
    simp only [MC.den, hΓ, h2]
  · cases h
def linCs (bs : Bds) (g : Facts) : List MC → List MC → Bool
  | [], [] => true
  | a :: l, b :: r => linC bs g a b && linCs bs g l r
  | _, _ => false
theorem linCs_den {bs : Bds} {g : Facts} {Γ : Ctx} (hb : bs.hold Γ.ρ) (hg : g.hold Γ.ρ) (Γ' : Ctx) (hΓ : Γ'.ρ = Γ.ρ) : ∀ {a b : List MC}, linCs bs g a b = true → densOf Γ' a = densOf Γ b
  | [], [], _ => rfl
  | x :: a, y :: b, h => by
    simp only [linCs, Bool.and_eq_true] at h
    have h1 := linC_den hb hg h.1 Γ' hΓ
    have h2 := linCs_den hb hg Γ' hΓ h.2
    simp only [densOf, List.map_cons] at h2 ⊢
    rw [h1, h2]
  | [], _ :: _, h => by simp [linCs] at h
  | _ :: _, [], h => by simp [linCs] at h
def linTup (bs : Bds) (g : Facts) : List (Bool × List MC) → List (Bool × List MC) → Bool
  | [], [] => true
  | a :: l, b :: r => (a.1 == b.1) && (linCs bs g a.2 b.2 && linTup bs g l r)
  | _, _ => false
theorem avDen_eq {Γ Γ' : Ctx} {a b : Bool × List MC} (h1 : a.1 = b.1) (h2 : densOf Γ' a.2 = densOf Γ b.2) : avDen Γ' a = avDen Γ b := by
  obtain ⟨t, l⟩ := a; obtain ⟨t', l'⟩ := b
  simp only at h1 h2
  subst h1
  cases t with
  | true => simp only [avDen, h2]
  | false =>
    cases l with
    | nil => cases l' with
      | nil => rfl
      | cons _ _ => simp [densOf] at h2
    | cons m l => cases l' with
      | nil => simp [densOf] at h2
      | cons m' l' => simp only [densOf, List.map_cons, List.cons.injEq] at h2; simp only [avDen, h2.1]
theorem linTup_den {bs : Bds} {g : Facts} {Γ : Ctx} (hb : bs.hold Γ.ρ) (hg : g.hold Γ.ρ) (Γ' : Ctx) (hΓ : Γ'.ρ = Γ.ρ) : ∀ {a b : List (Bool × List MC)}, linTup bs g a b = true → a.map (avDen Γ') = b.map (avDen Γ)
  | [], [], _ => rfl
  | x :: a, y :: b, h => by
    simp only [linTup, Bool.and_eq_true, beq_iff_eq] at h
    simp only [List.map_cons]
    rw [avDen_eq h.1 (linCs_den hb hg Γ' hΓ h.2.1), linTup_den hb hg Γ' hΓ h.2.2]
  | [], _ :: _, h => by simp [linTup] at h
  | _ :: _, [], h => by simp [linTup] at h
def linV (bs : Bds) (g : Facts) : MV → MV → Bool
  | .c a, .c b => linC bs g a b
  | .agg a, .agg b => linCs bs g a b
  | .tup a, .tup b => linTup bs g a b
  | _, _ => false
theorem linV_den {bs : Bds} {g : Facts} {Γ : Ctx} (hb : bs.hold Γ.ρ) (hg : g.hold Γ.ρ) (Γ' : Ctx) (hΓ : Γ'.ρ = Γ.ρ) {a b : MV} (h : linV bs g a b = true) {v v' : Value} (hv : a.rel Γ' v) (hv' : b.rel Γ v') : v = v' := by
  unfold linV at h
  split at h
  · rw [MV.rel_c hv, MV.rel_c hv', linC_den hb hg h Γ' hΓ]
  · rw [MV.rel_agg hv, MV.rel_agg hv', linCs_den hb hg Γ' hΓ h]
  · rename_i x y
    have h1 : v = .tuple (x.map (avDen Γ')).toArray := hv
    have h2 : v' = .tuple (y.map (avDen Γ)).toArray := hv'
    rw [h1, h2, linTup_den hb hg Γ' hΓ h]
  · cases h
/-- All ways of a tree hand back what is written out, or cannot be. -/
def allL (bs : Bds) (X : MV) : CT → Bool
  | .leaf r g => (match r.upd with | [] => linV bs g r.mv X || refute bs g | _ => false)
  | .br _ _ t f => allL bs X t && allL bs X f
  | .dead => true
  | .fail _ => false
theorem allL_at {bs : Bds} {X : MV} {Γ : Ctx} (hb : bs.hold Γ.ρ) : ∀ {t : CT}, allL bs X t = true → t.sure Γ.ρ → t.ok Γ.ρ ∧ ∀ r g, t.at Γ.ρ = some (r, g) → r.upd = [] ∧ ∀ Γ' : Ctx, Γ'.ρ = Γ.ρ → ∀ v v', r.mv.rel Γ' v → X.rel Γ v' → v = v'
  | .leaf r g, h, hs => by
    refine ⟨trivial, fun r' g' ha => ?_⟩
    simp only [CT.at, Option.some.injEq, Prod.mk.injEq] at ha
    obtain ⟨h1, h2⟩ := ha
    subst h1 h2
    simp only [allL] at h
    split at h
    · rename_i hu
      refine ⟨hu, fun Γ' hΓ v v' hv hv' => ?_⟩
      rw [Bool.or_eq_true] at h
      rcases h with h | h
      · exact linV_den hb hs Γ' hΓ h hv hv'
      · exact (refute_no hb hs h).elim
    · cases h
  | .br _ e t f, h, hs => by
    simp only [allL, Bool.and_eq_true] at h
    have hs2 := hs.2
    simp only [CT.ok, CT.at]
    by_cases hc : e.T Γ.ρ = true
    · rw [if_pos hc] at hs2
      simp only [if_pos hc]
      exact allL_at hb h.1 hs2
    · rw [if_neg hc] at hs2
      simp only [if_neg hc]
      exact allL_at hb h.2 hs2
  | .dead, _, hs => hs.elim
  | .fail _, h, _ => by simp [allL] at h
/-- A function of numbers: what it comes to, case by case. -/
theorem pf_cases {P : Program} {E : Env} (hm : P.follows .mixedOrders = true) (hE : E.Ok P) (hsum : Callee.Sound P E.bs E.sum) (hsure : Callee.Sure E.bs E.sum) {f n : Nat} {l : List AS} {vs : List Value} {v : Value}
    (hv : Both AS.fits l vs) (hpro : ∀ (zs : List Int) (bs : List Bool) (ss : List ByteArray), Fit (AS.kinds l) zs → (∀ Γ : Ctx, (∀ j, j < zs.length → Γ.ρ.i j = zs.getD j 0) → (∀ j, j < bs.length → Γ.ρ.b j = bs.getD j false) → (∀ j, j < ss.length → Γ.ρ.s j = ss.getD j ByteArray.empty) → ArgsRel Γ (fun _ => False) (AS.mvs l 0 0 0) vs) →
      ∃ ρ : Val, (∀ j, j < zs.length → ρ.i j = zs.getD j 0) ∧ (∀ j, j < bs.length → ρ.b j = bs.getD j false) ∧ (∀ j, j < ss.length → ρ.s j = ss.getD j ByteArray.empty) ∧ E.bs.hold ρ ∧
        ∃ c : List (Sx.E × Bool) × MV, Holds c.1 ρ ∧ (∀ Γ : Ctx, Γ.ρ = ρ → c.2.rel Γ v) ∧ allL E.bs c.2 (callF P E (evF P E n) f (AS.mvs l 0 0 0) {} (factsOf c.1)) = true) (w : World) :
    Calls P f vs.toArray w fun e w' => e = .returned v ∧ Below w.heap.size w w' := by
  obtain ⟨zs, bs, ss, hf, ih⟩ := open_args hv
  have ih0 : ∀ Γ : Ctx, (∀ j, j < zs.length → Γ.ρ.i j = zs.getD j 0) → (∀ j, j < bs.length → Γ.ρ.b j = bs.getD j false) → (∀ j, j < ss.length → Γ.ρ.s j = ss.getD j ByteArray.empty) → ArgsRel Γ (fun _ => False) (AS.mvs l 0 0 0) vs := fun Γ h1 h2 h3 =>
    ih Γ 0 0 0 (fun j hj => by rw [Nat.zero_add]; exact h1 j hj) (fun j hj => by rw [Nat.zero_add]; exact h2 j hj) (fun j hj => by rw [Nat.zero_add]; exact h3 j hj)
  obtain ⟨ρ, h1, h2, h3, hb, c, hc, hX, hall⟩ := hpro zs bs ss hf ih0
  obtain ⟨hok, hat⟩ := allL_at (Γ := ⟨ρ, fun j => j, fun j => j⟩) hb hall (fast_sure hE hsure n f (AS.mvs l 0 0 0) {} (factsOf c.1) ρ hb (factsOf_hold hc))
  refine (call_start (Γ := ⟨ρ, fun j => j, fun j => j⟩) (fast_sound hm hE hsum hsure n) (ih0 _ h1 h2 h3) (rel_none _ w) (fun _ h => h.elim) hb (factsOf_hold hc) hok fun r g hr => (hat r g hr).1).mono fun e w' hh => ?_
  obtain ⟨⟨x, Γ', r, g, rfl, e1, e2, e3⟩, hbel⟩ := hh
  obtain ⟨_, h4⟩ := hat r g e1
  exact ⟨by rw [h4 Γ' e3 x v e2 (hX _ rfl)], hbel⟩
/-- All ways of a tree hand back what a look of one's own finds good, or cannot be. -/
def allK (chk : MV → Facts → Bool) (bs : Bds) : CT → Bool
  | .leaf r g => (match r.upd with | [] => chk r.mv g || refute bs g | _ => false)
  | .br _ _ t f => allK chk bs t && allK chk bs f
  | .dead => true
  | .fail _ => false
theorem allK_at {chk : MV → Facts → Bool} {bs : Bds} {ρ : Val} (hb : bs.hold ρ) : ∀ {t : CT}, allK chk bs t = true → t.sure ρ → t.ok ρ ∧ ∀ r g, t.at ρ = some (r, g) → r.upd = [] ∧ g.hold ρ ∧ chk r.mv g = true
  | .leaf r g, h, hs => by
    refine ⟨trivial, fun r' g' ha => ?_⟩
    simp only [CT.at, Option.some.injEq, Prod.mk.injEq] at ha
    obtain ⟨h1, h2⟩ := ha
    subst h1 h2
    simp only [allK] at h
    split at h
    · rename_i hu
      rw [Bool.or_eq_true] at h
      rcases h with h | h
      · exact ⟨hu, hs, h⟩
      · exact (refute_no hb hs h).elim
    · cases h
  | .br _ e t f, h, hs => by
    simp only [allK, Bool.and_eq_true] at h
    have hs2 := hs.2
    simp only [CT.ok, CT.at]
    by_cases hc : e.T ρ = true
    · rw [if_pos hc] at hs2
      simp only [if_pos hc]
      exact allK_at hb h.1 hs2
    · rw [if_neg hc] at hs2
      simp only [if_neg hc]
      exact allK_at hb h.2 hs2
  | .dead, _, hs => hs.elim
  | .fail _, h, _ => by simp [allK] at h
theorem PF.of_chk {P : Program} {E : Env} {p : PF} {f n : Nat} {chk : MV → Facts → Bool} (hpl : AS.plain p.sh = true) (hm : P.follows .mixedOrders = true) (hE : E.Ok P) (hsum : Callee.Sound P E.bs E.sum) (hsure : Callee.Sure E.bs E.sum) (hbs : E.bs = { AS.bds p.sh with fk := true })
    (hchk : ∀ (m : MV) (g : Facts) (zs : List Int) (Γ : Ctx), Fit (AS.kinds p.sh) zs → Γ.ρ = Val.of zs [] [] → E.bs.hold Γ.ρ → g.hold Γ.ρ → chk m g = true → ∀ v, m.rel Γ v → v = p.V zs)
    (cases : List (List (Sx.E × Bool))) (hcover : ∀ zs, Fit (AS.kinds p.sh) zs → ∃ c ∈ cases, Sx.Holds c (Val.of zs [] []))
    (h : ∀ c ∈ cases, allK chk E.bs (callF P E (evF P E n) f (AS.mvs p.sh 0 0 0) {} (factsOf c)) = true) : p.Holds P f := by
  intro zs hfit w
  obtain ⟨c, hcm, hc⟩ := hcover zs hfit
  have hb : E.bs.hold (Val.of zs [] []) := by
    rw [hbs]
    exact ⟨fun i l u hh => hfit.get i l u hh, fun i l u hh => by simp [AS.bds] at hh, trivial⟩
  have ha : ArgsRel ⟨Val.of zs [] [], fun j => j, fun j => j⟩ (fun _ => False) (AS.mvs p.sh 0 0 0) (valsOf p.sh zs) := mvs_rel 0 0 0 hpl hfit fun j _ => by simp [Val.of]
  obtain ⟨hok, hat⟩ := allK_at hb (h c hcm) (fast_sure hE hsure n f (AS.mvs p.sh 0 0 0) {} (factsOf c) _ hb (factsOf_hold hc))
  refine (call_start (Γ := ⟨Val.of zs [] [], fun j => j, fun j => j⟩) (fast_sound hm hE hsum hsure n) ha (rel_none _ w) (fun _ h => h.elim) hb (factsOf_hold hc) hok fun r g hr => (hat r g hr).1).mono fun e w' hh => ?_
  obtain ⟨⟨v', Γ', r, g, rfl, h1, h2, h3⟩, hbel⟩ := hh
  obtain ⟨_, h4, h5⟩ := hat r g h1
  exact ⟨by rw [hchk r.mv g zs Γ' hfit h3 (by rw [h3]; exact hb) (by rw [h3]; exact h4) h5 v' h2], hbel⟩

/-! ### The sum of a ledger -/
def totE (e : Nat → E) : E := mkSub (mkSub (mkAdd (e 0) (e 2)) (e 1)) (e 3)
def totI (z : Nat → Int) : Int := z 0 + z 2 - z 1 - z 3
def totB (z : Nat → Int) : Bool := !decide (totI z < -9223372036854775808) && !decide (9223372036854775807 < totI z)
theorem totE_I (ρ : Val) (e : Nat → E) : (totE e).I ρ = totI fun i => (e i).I ρ := by simp only [totE, totI, mkSub_I, mkAdd_I]
def tellsP : PF where
  sh := [.agg [.i64, .i64, .i64, .i64]]
  V := fun zs => .tuple #[.int .i64 (if totB fun i => zs.getD i 0 then totI fun i => zs.getD i 0 else 0), .bool (totB fun i => zs.getD i 0)]
  X := fun bs fs es =>
    let t := totE fun i => es.getD i (.lit 0)
    let c := mkAnd (mkNot (mkLt bs fs t (.lit (-9223372036854775808)))) (mkNot (mkLt bs fs (.lit 9223372036854775807) t))
    .tup [(false, [.int .i64 (mkIteN c t (.lit 0))]), (false, [.bool c])]
theorem tellsP_ok : tellsP.Ok where
  den bs fs es Γ hb hf _ := by
    have hc : (mkAnd (mkNot (mkLt bs fs (totE fun i => es.getD i (.lit 0)) (.lit (-9223372036854775808)))) (mkNot (mkLt bs fs (.lit 9223372036854775807) (totE fun i => es.getD i (.lit 0))))).T Γ.ρ = totB fun i => (es.map (E.I Γ.ρ)).getD i 0 := by
      simp only [mkAnd_T, mkNot_T, mkLt_T hb hf, totE_I, E.I, totB, getD_I]
    simp only [tellsP, MV.rel, MV.den, List.map_cons, List.map_nil, avDen, MC.den, mkIteN_I, hc, totE_I, getD_I, E.I]
  on bs fs es L := fun p h => by
    simp only [List.mem_cons, List.not_mem_nil, or_false] at h
    rcases h with rfl | rfl
    · exact fun m hm => by simp only [List.mem_cons, List.not_mem_nil, or_false] at hm; subst hm; trivial
    · exact fun m hm => by simp only [List.mem_cons, List.not_mem_nil, or_false] at hm; subst hm; trivial
def totV : E := totE fun i => .var i
def tellsK (bs : Bds) (m : MV) (g : Facts) : Bool :=
  match m with
  | .tup [(false, [.int .i64 n]), (false, [.bool b])] =>
    match settle g (simpT bs g b) with
    | .bl true => linT bs g (.bin .and (.un .not (.bin .lt totV (.lit (-9223372036854775808)))) (.bin .and (.un .not (.bin .lt (.lit 9223372036854775807) totV)) (.bin .eq n totV)))
    | .bl false => E.beq n (.lit 0) && (linT bs g (.bin .lt totV (.lit (-9223372036854775808))) || linT bs g (.bin .lt (.lit 9223372036854775807) totV))
    | _ => false
  | _ => false
theorem tellsK_ok {bs : Bds} (m : MV) (g : Facts) (zs : List Int) (Γ : Ctx) (hΓ : Γ.ρ = Val.of zs [] []) (hb : bs.hold Γ.ρ) (hg : g.hold Γ.ρ) (h : tellsK bs m g = true) (v : Value) (hv : m.rel Γ v) : v = tellsP.V zs := by
  have ht : totV.I Γ.ρ = totI fun i => zs.getD i 0 := by rw [totV, totE_I, hΓ]; rfl
  unfold tellsK at h
  split at h
  · rename_i n b
    have hs := settle_T hg (simpT bs g b)
    rw [simpT_T hb hg] at hs
    have hv : v = .tuple #[.int .i64 (n.I Γ.ρ), .bool (b.T Γ.ρ)] := hv
    split at h
    · rename_i he
      rw [he] at hs
      have h2 := linT_ok hb hg _ h
      simp only [E.T, E.I, ht, Bool.and_eq_true, beq_iff_eq] at h2
      have hB : (totB fun i => zs.getD i 0) = true := by unfold totB; rw [Bool.and_eq_true]; exact ⟨h2.1, h2.2.1⟩
      rw [hv, ← hs, h2.2.2]
      simp only [tellsP, hB, if_true, E.T]
    · rename_i he
      rw [he] at hs
      rw [Bool.and_eq_true, Bool.or_eq_true] at h
      have hn := E.eq_of h.1
      have hB : (totB fun i => zs.getD i 0) = false := by
        unfold totB
        rcases h.2 with h2 | h2
        · have h3 := linT_ok hb hg _ h2
          simp only [E.T, E.I, ht] at h3
          rw [h3]; rfl
        · have h3 := linT_ok hb hg _ h2
          simp only [E.T, E.I, ht] at h3
          rw [h3]; simp
      rw [hv, ← hs, hn]
      simp only [tellsP, hB, E.T, E.I]
      rfl
    · cases h
  · cases h
end Sx
end Go.Proofs.Ytigblagodlfedaa
