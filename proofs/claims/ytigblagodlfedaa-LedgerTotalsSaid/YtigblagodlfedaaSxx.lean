/- Functions that are known by what they come to: those of the kinds, and those without arguments; a law, case by case. -/
import Derived.Test.YtigblagodlfedaaSxw
namespace Go.Proofs.Ytigblagodlfedaa
namespace Sx
open Go.RowKit

theorem Step.below {Γ : Ctx} {L : Nat → Prop} {S : St} {m : MV} {w w' : World} (hm : m.on L) (h : Below w.heap.size w w') : Step Γ Γ L S { mv := m } w w' :=
  { ρ := rfl, id := fun _ _ => rfl, sz := fun _ _ => rfl, os := h.os, tape := h.tape, output := h.output, size := h.size, keep := fun k hk _ => h.block k hk,
    new := fun i h => absurd h (by simp), fresh := fun i h => absurd h (by simp), apart := fun i _ h => absurd h (by simp), upd := fun p h => absurd h (by simp), once := fun q h => absurd h (by simp),
    onMv := MV.on_mono (fun j h => .inl h) hm, onNew := fun b h => absurd h (by simp), onUpd := fun p h => absurd h (by simp) }
def HasFn (P : Program) (f : Nat) : Prop := ∃ fn, P.funcs[f]? = some fn ∧ (fn.name == "runtime.NumGoroutine") = false ∧ fn.body.isNone = false

/-! ### A table of functions -/
abbrev Known := List MV → Facts → CT
def tabC (l : List (Nat × Known)) : Callee := fun f args _ fs => match lookup f l with | some c => c args fs | none => .fail 131
structure Entry (P : Program) (bs : Bds) (f : Nat) (c : Known) : Prop where
  sound : ∀ L args vs S fs Γ w, ArgsRel Γ L args vs → bs.hold Γ.ρ → fs.hold Γ.ρ → (c args fs).ok Γ.ρ → CallOk P (c args fs) L Γ S w f vs.toArray
  sure : ∀ args fs ρ, bs.hold ρ → fs.hold ρ → (c args fs).sure ρ
def Entries (P : Program) (bs : Bds) : List (Nat × Known) → Prop
  | [] => True
  | p :: l => Entry P bs p.1 p.2 ∧ Entries P bs l
theorem Entries.get {P : Program} {bs : Bds} {f : Nat} {c : Known} : ∀ {l : List (Nat × Known)}, Entries P bs l → lookup f l = some c → Entry P bs f c
  | [], _, h => by simp [lookup] at h
  | (k, a) :: r, hl, h => by
    simp only [lookup] at h
    split at h
    · rename_i hk
      have hk := Nat.eq_of_beq_eq_true hk
      subst hk
      cases h
      exact hl.1
    · exact Entries.get hl.2 h
theorem tabC_sound {P : Program} {bs : Bds} {l : List (Nat × Known)} (hl : Entries P bs l) : Callee.Sound P bs (tabC l) := by
  intro L f args vs S fs Γ w ha _ _ hb hf hok
  unfold tabC at hok ⊢
  split at hok
  · rename_i c hc
    try simp only [hc]
    exact (hl.get hc).sound L args vs S fs Γ w ha hb hf hok
  · exact hok.elim
theorem tabC_sure {P : Program} {bs : Bds} {l : List (Nat × Known)} (hl : Entries P bs l) : Callee.Sure bs (tabC l) := by
  intro f args S fs ρ hb hf
  unfold tabC
  split
  · rename_i c hc
    exact (hl.get hc).sure args fs ρ hb hf
  · trivial

/-! ### Without arguments -/
def trueC : Known := fun args fs => match args with | [] => .leaf { mv := .c (.bool (.bl true)) } fs | _ => .fail 137
def Sane (P : Program) (f : Nat) : Prop := ∀ w : World, Calls P f #[] w fun e w' => e = .returned (.bool true) ∧ Below w.heap.size w w'
theorem trueC_entry {P : Program} {bs : Bds} {f : Nat} (hfn : HasFn P f) (h : Sane P f) : Entry P bs f trueC where
  sound L args vs S fs Γ w ha hb hf hok := by
    cases ha with
    | nil =>
      refine ⟨hfn, (h w).mono fun e w' he => ⟨_, Γ, _, _, he.1, rfl, ?_, Step.below trivial he.2⟩⟩
      simp [MV.rel, MV.den, MC.den, E.T]
    | cons _ _ => exact hok.elim
  sure args fs ρ hb hf := by
    unfold trueC
    split
    · exact hf
    · trivial

/-! ### The kinds -/
def is255 (bs : Bds) (fs : Facts) (a : E) : Bool := (bnd bs fs a).within 0 255
def b1C (bs : Bds) (j : Nat) : Known := fun args fs => match args with | [.c (.int .u8 a)] => (match is255 bs fs a with | true => .leaf { mv := .c (.bool (mkFb bs fs j a)) } fs | false => .fail 138) | _ => .fail 139
def i1C (bs : Bds) (j : Nat) : Known := fun args fs => match args with | [.c (.int .u8 a)] => (match is255 bs fs a with | true => .leaf { mv := .c (.int .u8 (mkFi j a)) } fs | false => .fail 138) | _ => .fail 139
def b2C (bs : Bds) (j : Nat) : Known := fun args fs => match args with | [.agg [.int .u8 a, .int .u8 b]] => (match is255 bs fs a && is255 bs fs b with | true => .leaf { mv := .c (.bool (mkGb bs fs j a b)) } fs | false => .fail 138) | _ => .fail 139
def i2C (bs : Bds) (j : Nat) : Known := fun args fs => match args with | [.agg [.int .u8 a, .int .u8 b]] => (match is255 bs fs a && is255 bs fs b with | true => .leaf { mv := .c (.int .u8 (mkGi j a b)) } fs | false => .fail 138) | _ => .fail 139
def Ret (P : Program) (f : Nat) (vs : List Value) (v : Value) : Prop := ∀ w : World, Calls P f vs.toArray w fun e w' => e = .returned v ∧ Below w.heap.size w w'
def B1 (P : Program) (f j : Nat) : Prop := ∀ n : Int, 0 ≤ n → n ≤ 255 → Ret P f [.int .u8 n] (.bool (phiB1 j n))
def I1 (P : Program) (f j : Nat) : Prop := ∀ n : Int, 0 ≤ n → n ≤ 255 → Ret P f [.int .u8 n] (.int .u8 (phiI1 j n))
def B2 (P : Program) (f j : Nat) : Prop := ∀ n m : Int, 0 ≤ n → n ≤ 255 → 0 ≤ m → m ≤ 255 → Ret P f [.agg #[.int .u8 n, .int .u8 m]] (.bool (phiB2 j n m))
def I2 (P : Program) (f j : Nat) : Prop := ∀ n m : Int, 0 ≤ n → n ≤ 255 → 0 ≤ m → m ≤ 255 → Ret P f [.agg #[.int .u8 n, .int .u8 m]] (.int .u8 (phiI2 j n m))
theorem is255_spec {bs : Bds} {fs : Facts} {ρ : Val} {a : E} (hb : bs.hold ρ) (hf : fs.hold ρ) (h : is255 bs fs a = true) : 0 ≤ a.I ρ ∧ a.I ρ ≤ 255 := Bd.of_within (bnd_has hb hf a) h
theorem leaf_ok {P : Program} {f : Nat} {L : Nat → Prop} {Γ : Ctx} {S : St} {w : World} {m : MV} {fs : Facts} {vs : List Value} {v : Value} (hfn : HasFn P f) (h : Ret P f vs v) (hv : m.rel Γ v) (hm : m.on L) : CallOk P (.leaf { mv := m } fs) L Γ S w f vs.toArray :=
  ⟨hfn, (h w).mono fun _ _ he => ⟨_, Γ, _, _, he.1, rfl, hv, Step.below hm he.2⟩⟩
theorem b1C_entry {P : Program} {bs : Bds} {f j : Nat} (hfn : HasFn P f) (h : B1 P f j) : Entry P bs f (b1C bs j) where
  sound L args vs S fs Γ w ha hb hf hok := by
    unfold b1C at hok ⊢
    split at hok
    · rename_i a
      split at hok
      · rename_i hw
        cases ha with
        | cons h1 t1 =>
          cases t1
          have h2 := MV.rel_c h1.1
          subst h2
          obtain ⟨h3, h4⟩ := is255_spec hb hf hw
          try simp only [hw]
          refine leaf_ok hfn (h _ h3 h4) ?_ trivial
          simp only [MV.rel, MV.den, MC.den, mkFb_T hb hf]
      · exact hok.elim
    · exact hok.elim
  sure args fs ρ hb hf := by
    unfold b1C
    split
    · split
      · exact hf
      · trivial
    · trivial
theorem i1C_entry {P : Program} {bs : Bds} {f j : Nat} (hfn : HasFn P f) (h : I1 P f j) : Entry P bs f (i1C bs j) where
  sound L args vs S fs Γ w ha hb hf hok := by
    unfold i1C at hok ⊢
    split at hok
    · rename_i a
      split at hok
      · rename_i hw
        cases ha with
        | cons h1 t1 =>
          cases t1
          have h2 := MV.rel_c h1.1
          subst h2
          obtain ⟨h3, h4⟩ := is255_spec hb hf hw
          try simp only [hw]
          refine leaf_ok hfn (h _ h3 h4) ?_ trivial
          simp only [MV.rel, MV.den, MC.den, mkFi_I]
      · exact hok.elim
    · exact hok.elim
  sure args fs ρ hb hf := by
    unfold i1C
    split
    · split
      · exact hf
      · trivial
    · trivial
theorem b2C_entry {P : Program} {bs : Bds} {f j : Nat} (hfn : HasFn P f) (h : B2 P f j) : Entry P bs f (b2C bs j) where
  sound L args vs S fs Γ w ha hb hf hok := by
    unfold b2C at hok ⊢
    split at hok
    · rename_i a b
      split at hok
      · rename_i hw
        cases ha with
        | cons h1 t1 =>
          cases t1
          have h2 := MV.rel_agg h1.1
          subst h2
          have hw2 := hw
          rw [Bool.and_eq_true] at hw2
          obtain ⟨h3, h4⟩ := is255_spec hb hf hw2.1
          obtain ⟨h5, h6⟩ := is255_spec hb hf hw2.2
          try simp only [hw]
          refine leaf_ok hfn (h _ _ h3 h4 h5 h6) ?_ trivial
          simp only [MV.rel, MV.den, MC.den, mkGb_T hb hf]
      · exact hok.elim
    · exact hok.elim
  sure args fs ρ hb hf := by
    unfold b2C
    split
    · split
      · exact hf
      · trivial
    · trivial
theorem i2C_entry {P : Program} {bs : Bds} {f j : Nat} (hfn : HasFn P f) (h : I2 P f j) : Entry P bs f (i2C bs j) where
  sound L args vs S fs Γ w ha hb hf hok := by
    unfold i2C at hok ⊢
    split at hok
    · rename_i a b
      split at hok
      · rename_i hw
        cases ha with
        | cons h1 t1 =>
          cases t1
          have h2 := MV.rel_agg h1.1
          subst h2
          have hw2 := hw
          rw [Bool.and_eq_true] at hw2
          obtain ⟨h3, h4⟩ := is255_spec hb hf hw2.1
          obtain ⟨h5, h6⟩ := is255_spec hb hf hw2.2
          try simp only [hw]
          refine leaf_ok hfn (h _ _ h3 h4 h5 h6) ?_ trivial
          simp only [MV.rel, MV.den, MC.den, mkGi_I]
      · exact hok.elim
    · exact hok.elim
  sure args fs ρ hb hf := by
    unfold i2C
    split
    · split
      · exact hf
      · trivial
    · trivial

/-! ### What the kinds are, written out in expressions -/
def orEqs (bs : Bds) (fs : Facts) (a : E) : List Int → E
  | [] => .bl false
  | n :: r => mkOr (mkEq bs fs a (.lit n)) (orEqs bs fs a r)
theorem orEqs_T {ρ : Val} {bs : Bds} {fs : Facts} (hb : bs.hold ρ) (hf : fs.hold ρ) (a : E) : ∀ l : List Int, (orEqs bs fs a l).T ρ = l.any fun n => a.I ρ == n
  | [] => rfl
  | n :: r => by simp only [orEqs, mkOr_T, mkEq_T hb hf, orEqs_T hb hf a r, List.any_cons, E.I]
def kList : Nat → List Int
  | 0 => [0, 9, 11, 12, 13, 14] | 1 => [2, 3, 4, 5, 6, 7, 8, 9] | 2 => [0, 11, 12, 13, 14] | 3 => [0, 11, 12, 14] | 4 => [4, 5, 8] | 5 => [6, 7, 12] | _ => []
theorem kList_spec (j : Nat) (n : Int) : phiB1 j n = (kList j).any fun m => n == m := by
  unfold phiB1
  split <;> simp only [kList, List.any_cons, List.any_nil]
  · simp [K.clear, Bool.or_assoc]
  · unfold K.movable
    rw [Bool.eq_iff_iff]
    simp
    omega
  · simp [K.yields, Bool.or_assoc]
  · simp [K.soaks, Bool.or_assoc]
  · simp [K.falls, Bool.or_assoc]
  · simp [K.burns, Bool.or_assoc]
def levE (bs : Bds) (fs : Facts) (a : E) : E :=
  mkIteI (mkEq bs fs a (.lit 11)) (.lit 15) (mkIteI (mkEq bs fs a (.lit 12)) (.lit 3) (mkIteI (mkEq bs fs a (.lit 13)) (.lit 7) (mkIteI (mkEq bs fs a (.lit 14)) (.lit 1) (.lit 0))))
theorem levE_I {ρ : Val} {bs : Bds} {fs : Facts} (hb : bs.hold ρ) (hf : fs.hold ρ) (a : E) : (levE bs fs a).I ρ = K.levels (a.I ρ) := by
  unfold levE K.levels
  simp only [mkIteI_I, mkEq_T hb hf, E.I]
def mayX (bs : Bds) (fs : Facts) (a l : E) : E :=
  mkAnd (mkAnd (mkLt bs fs a (.lit 15)) (mkLe bs fs l (levE bs fs a))) (mkOr (mkNot (mkEq bs fs a (.lit 11))) (mkLt bs fs (.lit 0) l))
theorem mayX_T {ρ : Val} {bs : Bds} {fs : Facts} (hb : bs.hold ρ) (hf : fs.hold ρ) (a l : E) : (mayX bs fs a l).T ρ = K.may (a.I ρ) (l.I ρ) := by
  unfold mayX K.may
  simp only [mkAnd_T, mkOr_T, mkNot_T, mkEq_T hb hf, mkLt_T hb hf, mkLe_T hb hf, levE_I hb hf, E.I]
  rfl
def lampX (bs : Bds) (fs : Facts) (a l : E) : E :=
  mkIteI (mayX bs fs a l) (mkIteI (mkEq bs fs a (.lit 11)) l (mkIteI (mkEq bs fs a (.lit 14)) (.lit 10) (.lit 0))) (.lit 0)
theorem lampX_I {ρ : Val} {bs : Bds} {fs : Facts} (hb : bs.hold ρ) (hf : fs.hold ρ) (a l : E) : (lampX bs fs a l).I ρ = K.lamp (a.I ρ) (l.I ρ) := by
  unfold lampX K.lamp
  simp only [mkIteI_I, mayX_T hb hf, mkEq_T hb hf, E.I]
/-- All ways of a tree hand back a truth (a number) that is the one written out. -/
def allB (bs : Bds) (X : Facts → E) : CT → Bool
  | .leaf r g => match r.mv with | .c (.bool e) => isT (simpT bs g (mkIteT e (X g) (mkNot (X g)))) | _ => false
  | .br _ _ t f => allB bs X t && allB bs X f
  | .dead => true
  | .fail _ => false
def allI (bs : Bds) (X : Facts → E) : CT → Bool
  | .leaf r g => match r.mv with | .c (.int .u8 e) => isT (mkEq bs g e (X g)) | _ => false
  | .br _ _ t f => allI bs X t && allI bs X f
  | .dead => true
  | .fail _ => false
theorem allB_at {bs : Bds} {ρ : Val} (hb : bs.hold ρ) {X : Facts → E} {x : Bool} (hX : ∀ g : Facts, g.hold ρ → (X g).T ρ = x) : ∀ {t : CT}, allB bs X t = true → t.sure ρ → t.ok ρ ∧ ∀ r g, t.at ρ = some (r, g) → ∃ e, r.mv = .c (.bool e) ∧ e.T ρ = x
  | .leaf r g, h, hs => by
    refine ⟨trivial, fun r' g' ha => ?_⟩
    simp only [CT.at, Option.some.injEq, Prod.mk.injEq] at ha
    obtain ⟨h1, h2⟩ := ha
    subst h1 h2
    simp only [allB] at h
    split at h
    · rename_i e he
      refine ⟨e, he, ?_⟩
      have := isT_spec (ρ := ρ) h
      rw [simpT_T hb hs, mkIteT_T, mkNot_T, hX g hs] at this
      revert this
      cases e.T ρ <;> cases x <;> simp
    · cases h
  | .br _ e t f, h, hs => by
    simp only [allB, Bool.and_eq_true] at h
    have hs2 := hs.2
    simp only [CT.ok, CT.at]
    by_cases hc : e.T ρ = true
    · rw [if_pos hc] at hs2
      simp only [if_pos hc]
      exact allB_at hb hX h.1 hs2
    · rw [if_neg hc] at hs2
      simp only [if_neg hc]
      exact allB_at hb hX h.2 hs2
  | .dead, _, hs => hs.elim
  | .fail _, h, _ => by simp [allB] at h
theorem allI_at {bs : Bds} {ρ : Val} (hb : bs.hold ρ) {X : Facts → E} {x : Int} (hX : ∀ g : Facts, g.hold ρ → (X g).I ρ = x) : ∀ {t : CT}, allI bs X t = true → t.sure ρ → t.ok ρ ∧ ∀ r g, t.at ρ = some (r, g) → ∃ e, r.mv = .c (.int .u8 e) ∧ e.I ρ = x
  | .leaf r g, h, hs => by
    refine ⟨trivial, fun r' g' ha => ?_⟩
    simp only [CT.at, Option.some.injEq, Prod.mk.injEq] at ha
    obtain ⟨h1, h2⟩ := ha
    subst h1 h2
    simp only [allI] at h
    split at h
    · rename_i e he
      refine ⟨e, he, ?_⟩
      have := isT_spec (ρ := ρ) h
      rw [mkEq_T hb hs, hX g hs] at this
      simpa using this
    · cases h
  | .br _ e t f, h, hs => by
    simp only [allI, Bool.and_eq_true] at h
    have hs2 := hs.2
    simp only [CT.ok, CT.at]
    by_cases hc : e.T ρ = true
    · rw [if_pos hc] at hs2
      simp only [if_pos hc]
      exact allI_at hb hX h.1 hs2
    · rw [if_neg hc] at hs2
      simp only [if_neg hc]
      exact allI_at hb hX h.2 hs2
  | .dead, _, hs => hs.elim
  | .fail _, h, _ => by simp [allI] at h
def a1 : List AS := [.int .u8]
def a2 : List AS := [.agg [.u8, .u8]]
/-- A call whose tree tells its value. -/
theorem ret_of {P : Program} {E : Env} {f n : Nat} (hm : P.follows .mixedOrders = true) (hE : E.Ok P) (hsum : Callee.Sound P E.bs E.sum) {args : List MV} {vs : List Value} {Γ : Ctx} {v : Value} (ha : ArgsRel Γ (fun _ => False) args vs) (hb : E.bs.hold Γ.ρ)
    (hsure : Callee.Sure E.bs E.sum) (h : (callF P E (evF P E n) f args {} []).sure Γ.ρ → (callF P E (evF P E n) f args {} []).ok Γ.ρ ∧ ∀ r g, (callF P E (evF P E n) f args {} []).at Γ.ρ = some (r, g) → ∃ m, r.mv = .c m ∧ ∀ Γ' : Ctx, Γ'.ρ = Γ.ρ → m.den Γ' = v) : Ret P f vs v := by
  intro w
  have hf : Facts.hold Γ.ρ [] := fun p hp => absurd hp (by simp)
  obtain ⟨hok, hat⟩ := h (fast_sure hE hsure n f args {} [] Γ.ρ hb hf)
  refine (call_plain (fast_sound hm hE hsum hsure n) ha hb hf hok w).mono fun e w' hh => ?_
  obtain ⟨⟨v', Γ', r, g, rfl, h1, h2, h3⟩, hbel⟩ := hh
  obtain ⟨m, h4, h5⟩ := hat r g h1
  rw [h4] at h2
  refine ⟨?_, hbel⟩
  rw [MV.rel_c h2, h5 Γ' h3]
def g1 (n m : Int) : Ctx := ⟨Val.of [n, m] [] [], fun j => j, fun j => j⟩
theorem hold_a1 {n : Int} (h0 : 0 ≤ n) (h1 : n ≤ 255) : Bds.hold (g1 n 0).ρ (AS.bds a1) :=
  ⟨fun i l u h => (Fit.cons (k := .u8) (z := n) ⟨by show (0 : Int) ≤ n; exact h0, by show n ≤ (255 : Int); exact h1⟩ .nil).get i l u h |> fun h => by
    cases i with
    | zero => simpa [g1, Val.of] using h
    | succ i => simp [AS.bds, AS.kinds, a1] at *,
   fun i l u h => by simp [AS.bds] at h, trivial⟩
theorem hold_a2 {n m : Int} (h0 : 0 ≤ n) (h1 : n ≤ 255) (h2 : 0 ≤ m) (h3 : m ≤ 255) : Bds.hold (g1 n m).ρ (AS.bds a2) :=
  ⟨fun i l u h => (Fit.cons (k := .u8) (z := n) ⟨by show (0 : Int) ≤ n; exact h0, by show n ≤ (255 : Int); exact h1⟩ (Fit.cons (k := .u8) (z := m) ⟨by show (0 : Int) ≤ m; exact h2, by show m ≤ (255 : Int); exact h3⟩ .nil)).get i l u h |> fun h => by
    simpa [g1, Val.of] using h,
   fun i l u h => by simp [AS.bds] at h, trivial⟩
theorem rel_a1 (n : Int) : ArgsRel (g1 n 0) (fun _ => False) (AS.mvs a1 0 0 0) [.int .u8 n] :=
  .cons ⟨by simp [MV.rel, MV.den, MC.den, E.I, g1, Val.of], trivial⟩ .nil
theorem rel_a2 (n m : Int) : ArgsRel (g1 n m) (fun _ => False) (AS.mvs a2 0 0 0) [.agg #[.int .u8 n, .int .u8 m]] :=
  .cons ⟨by simp [MV.rel, MV.den, MC.den, E.I, g1, Val.of, rowM, densOf], row_on _ _⟩ .nil
section
variable {P : Program} {E : Env} {f n j : Nat} (hm : P.follows .mixedOrders = true) (hE : E.Ok P) (hsum : Callee.Sound P E.bs E.sum) (hsure : Callee.Sure E.bs E.sum)
include hm hE hsum hsure
theorem b1_of (hbs : E.bs = AS.bds a1) (h : allB E.bs (fun g => orEqs E.bs g (.var 0) (kList j)) (callF P E (evF P E n) f (AS.mvs a1 0 0 0) {} []) = true) : B1 P f j := fun x h0 h1 =>
  have hb : E.bs.hold (g1 x 0).ρ := by rw [hbs]; exact hold_a1 h0 h1
  ret_of hm hE hsum (rel_a1 x) hb hsure fun hs => by
    obtain ⟨h2, h3⟩ := allB_at hb (x := phiB1 j x) (fun g hg => by rw [orEqs_T hb hg, kList_spec]; rfl) h hs
    exact ⟨h2, fun r g hat => by obtain ⟨e, h4, h5⟩ := h3 r g hat; exact ⟨_, h4, fun Γ' hΓ => by simp only [MC.den, hΓ, h5]⟩⟩
theorem i1_of (hbs : E.bs = AS.bds a1) (h : allI E.bs (fun g => levE E.bs g (.var 0)) (callF P E (evF P E n) f (AS.mvs a1 0 0 0) {} []) = true) : I1 P f 0 := fun x h0 h1 =>
  have hb : E.bs.hold (g1 x 0).ρ := by rw [hbs]; exact hold_a1 h0 h1
  ret_of hm hE hsum (rel_a1 x) hb hsure fun hs => by
    obtain ⟨h2, h3⟩ := allI_at hb (x := phiI1 0 x) (fun g hg => by rw [levE_I hb hg]; rfl) h hs
    exact ⟨h2, fun r g hat => by obtain ⟨e, h4, h5⟩ := h3 r g hat; exact ⟨_, h4, fun Γ' hΓ => by simp only [MC.den, hΓ, h5]⟩⟩
theorem b2_of (hbs : E.bs = AS.bds a2) (h : allB E.bs (fun g => mayX E.bs g (.var 0) (.var 1)) (callF P E (evF P E n) f (AS.mvs a2 0 0 0) {} []) = true) : B2 P f 0 := fun x y h0 h1 h2 h3 =>
  have hb : E.bs.hold (g1 x y).ρ := by rw [hbs]; exact hold_a2 h0 h1 h2 h3
  ret_of hm hE hsum (rel_a2 x y) hb hsure fun hs => by
    obtain ⟨h2, h3⟩ := allB_at hb (x := phiB2 0 x y) (fun g hg => by rw [mayX_T hb hg]; rfl) h hs
    exact ⟨h2, fun r g hat => by obtain ⟨e, h4, h5⟩ := h3 r g hat; exact ⟨_, h4, fun Γ' hΓ => by simp only [MC.den, hΓ, h5]⟩⟩
theorem i2_of (hbs : E.bs = AS.bds a2) (h : allI E.bs (fun g => lampX E.bs g (.var 0) (.var 1)) (callF P E (evF P E n) f (AS.mvs a2 0 0 0) {} []) = true) : I2 P f 0 := fun x y h0 h1 h2 h3 =>
  have hb : E.bs.hold (g1 x y).ρ := by rw [hbs]; exact hold_a2 h0 h1 h2 h3
  ret_of hm hE hsum (rel_a2 x y) hb hsure fun hs => by
    obtain ⟨h2, h3⟩ := allI_at hb (x := phiI2 0 x y) (fun g hg => by rw [lampX_I hb hg]; rfl) h hs
    exact ⟨h2, fun r g hat => by obtain ⟨e, h4, h5⟩ := h3 r g hat; exact ⟨_, h4, fun Γ' hΓ => by simp only [MC.den, hΓ, h5]⟩⟩
/-- A function without arguments that says true. -/
theorem sane_of (h : allTrue E.bs (callF P E (evF P E n) f [] {} []) = true) (hbs : E.bs = {}) : Sane P f :=
  law_true (vs := []) (Γ := g1 0 0) (fast_sound hm hE hsum hsure n) (fast_sure hE hsure n) .nil (by rw [hbs]; exact hold_none _) h
end

/-! ### A law, case by case -/
theorem law_true_at {P : Program} {bs : Bds} {call : Callee} (hc : Callee.Sound P bs call) (hs : Callee.Sure bs call) {f : Nat} {args : List MV} {vs : List Value} {Γ : Ctx} {fs : Facts} (ha : ArgsRel Γ (fun _ => False) args vs) (hb : bs.hold Γ.ρ) (hf : fs.hold Γ.ρ)
    (h : allTrue bs (call f args {} fs) = true) (w : World) : Calls P f vs.toArray w fun e w' => e = .returned (.bool true) ∧ Below w.heap.size w w' := by
  obtain ⟨hok, hat⟩ := allTrue_at hb h (hs f args {} fs Γ.ρ hb hf)
  refine (call_plain hc ha hb hf hok w).mono fun e w' hh => ?_
  obtain ⟨⟨v, Γ', r, g, rfl, h1, h2, h3⟩, hbel⟩ := hh
  obtain ⟨e, h4, h5⟩ := hat r g h1
  rw [h4] at h2
  refine ⟨?_, hbel⟩
  rw [MV.rel_c h2]
  simp only [MC.den, h3, h5]
/-- The facts of a case: truths that hold. -/
def factsOf : List (E × Bool) → Facts
  | [] => []
  | p :: l => addFact p.1 p.2 (factsOf l)
theorem factsOf_hold {ρ : Val} : ∀ {l : List (E × Bool)}, (∀ p ∈ l, p.1.T ρ = p.2) → (factsOf l).hold ρ
  | [], _ => fun p hp => absurd hp (by simp [factsOf])
  | p :: l, h => addFact_hold _ _ _ (h p (by simp)) (factsOf_hold fun q hq => h q (by simp [hq]))
theorem law_cases {P : Program} {E : Env} (hm : P.follows .mixedOrders = true) (hE : E.Ok P) (hsum : Callee.Sound P E.bs E.sum) (hsure : Callee.Sure E.bs E.sum) {f n : Nat} {l : List AS} (hbs : E.bs = AS.bds l)
    (cases : List (List (Sx.E × Bool))) (hcover : ∀ ρ : Val, (AS.bds l).hold ρ → ∃ c ∈ cases, ∀ p ∈ c, p.1.T ρ = p.2)
    (h : ∀ c ∈ cases, allTrue E.bs (callF P E (evF P E n) f (AS.mvs l 0 0 0) {} (factsOf c)) = true) {vs : List Value} (hv : Both AS.fits l vs) (w : World) : Calls P f vs.toArray w fun e w' => e = .returned (.bool true) ∧ Below w.heap.size w w' := by
  obtain ⟨Γ, ha, hb⟩ := open_all hv
  obtain ⟨c, hc, hp⟩ := hcover Γ.ρ hb
  exact law_true_at (fast_sound hm hE hsum hsure n) (fast_sure hE hsure n) ha (by rw [hbs]; exact hb) (factsOf_hold hp) (h c hc) w
/-- The same, where more symbols are told ahead: those of the arguments are the first. -/
theorem law_pro {P : Program} {E : Env} (hm : P.follows .mixedOrders = true) (hE : E.Ok P) (hsum : Callee.Sound P E.bs E.sum) (hsure : Callee.Sure E.bs E.sum) {f n : Nat} {l : List AS}
    (hpro : ∀ (zs : List Int) (bs : List Bool) (ss : List ByteArray), Fit (AS.kinds l) zs → ∃ ρ : Val, (∀ j, j < zs.length → ρ.i j = zs.getD j 0) ∧ (∀ j, j < bs.length → ρ.b j = bs.getD j false) ∧ (∀ j, j < ss.length → ρ.s j = ss.getD j ByteArray.empty) ∧ E.bs.hold ρ)
    (cases : List (List (Sx.E × Bool))) (hcover : ∀ ρ : Val, E.bs.hold ρ → ∃ c ∈ cases, ∀ p ∈ c, p.1.T ρ = p.2)
    (h : ∀ c ∈ cases, allTrue E.bs (callF P E (evF P E n) f (AS.mvs l 0 0 0) {} (factsOf c)) = true) {vs : List Value} (hv : Both AS.fits l vs) (w : World) : Calls P f vs.toArray w fun e w' => e = .returned (.bool true) ∧ Below w.heap.size w w' := by
  obtain ⟨zs, bs, ss, hf, ih⟩ := open_args hv
  obtain ⟨ρ, h1, h2, h3, hb⟩ := hpro zs bs ss hf
  obtain ⟨c, hc, hp⟩ := hcover ρ hb
  exact law_true_at (Γ := ⟨ρ, fun j => j, fun j => j⟩) (fast_sound hm hE hsum hsure n) (fast_sure hE hsure n) (ih _ 0 0 0 (fun j hj => by rw [Nat.zero_add]; exact h1 j hj) (fun j hj => by rw [Nat.zero_add]; exact h2 j hj) (fun j hj => by rw [Nat.zero_add]; exact h3 j hj)) hb (factsOf_hold hp) (h c hc) w
theorem forall_cons {α : Type} {p : α → Prop} {a : α} {l : List α} (h : p a) (t : ∀ x ∈ l, p x) : ∀ x ∈ a :: l, p x := fun x hx => by
  rcases List.mem_cons.1 hx with rfl | hx
  · exact h
  · exact t x hx
theorem forall_nil {α : Type} {p : α → Prop} : ∀ x ∈ ([] : List α), p x := fun x hx => absurd hx (by simp)
end Sx
end Go.Proofs.Ytigblagodlfedaa
