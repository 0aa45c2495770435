/- Functions and laws whose arguments hold a row of numbers. -/
import Derived.Test.YtigblagodlfedaaSyc
namespace Go.Proofs.Ytigblagodlfedaa
namespace Sx
open Go.RowKit

/-! ### From a start -/
def allTrueU (bs : Bds) : CT → Bool
  | .leaf r g => match r.upd, r.mv with | [], .c (.bool e) => proveC bs 8 g e || prove bs 2 g e | _, _ => false
  | .br _ _ t f => allTrueU bs t && allTrueU bs f
  | .dead => true
  | .fail _ => false
theorem allTrueU_at {bs : Bds} {ρ : Val} (hb : bs.hold ρ) : ∀ {t : CT}, allTrueU bs t = true → t.sure ρ → t.ok ρ ∧ ∀ r g, t.at ρ = some (r, g) → r.upd = [] ∧ ∃ e, r.mv = .c (.bool e) ∧ e.T ρ = true
  | .leaf r g, h, hs => by
    refine ⟨trivial, fun r' g' ha => ?_⟩
    simp only [CT.at, Option.some.injEq, Prod.mk.injEq] at ha
    obtain ⟨h1, h2⟩ := ha
    subst h1 h2
    simp only [allTrueU] at h
    split at h
    · rename_i e hu he
      rw [Bool.or_eq_true] at h
      exact ⟨hu, e, he, h.elim (proveC_spec hb 8 _ _ hs) (prove_spec hb 2 _ _ hs)⟩
    · cases h
  | .br _ e t f, h, hs => by
    simp only [allTrueU, Bool.and_eq_true] at h
    have hs2 := hs.2
    simp only [CT.ok, CT.at]
    by_cases hc : e.T ρ = true
    · rw [if_pos hc] at hs2
      simp only [if_pos hc]
      exact allTrueU_at hb h.1 hs2
    · rw [if_neg hc] at hs2
      simp only [if_neg hc]
      exact allTrueU_at hb h.2 hs2
  | .dead, _, hs => hs.elim
  | .fail _, h, _ => by simp [allTrueU] at h
def allVU (bs : Bds) (n : Nat) (X : MV) : CT → Bool
  | .leaf r g => match r.upd with | [] => sameV bs g n r.mv X | _ => false
  | .br _ _ t f => allVU bs n X t && allVU bs n X f
  | .dead => true
  | .fail _ => false
theorem allVU_at {bs : Bds} {ρ : Val} {n : Nat} {X : MV} : ∀ {t : CT}, allVU bs n X t = true → t.sure ρ → t.ok ρ ∧ ∀ r g, t.at ρ = some (r, g) → r.upd = [] ∧ g.hold ρ ∧ sameV bs g n r.mv X = true
  | .leaf r g, h, hs => by
    refine ⟨trivial, fun r' g' ha => ?_⟩
    simp only [CT.at, Option.some.injEq, Prod.mk.injEq] at ha
    obtain ⟨h1, h2⟩ := ha
    subst h1 h2
    simp only [allVU] at h
    split at h
    · rename_i hu; exact ⟨hu, hs, h⟩
    · cases h
  | .br _ e t f, h, hs => by
    simp only [allVU, Bool.and_eq_true] at h
    have hs2 := hs.2
    simp only [CT.ok, CT.at]
    by_cases hc : e.T ρ = true
    · rw [if_pos hc] at hs2
      simp only [if_pos hc]
      exact allVU_at h.1 hs2
    · rw [if_neg hc] at hs2
      simp only [if_neg hc]
      exact allVU_at h.2 hs2
  | .dead, _, hs => hs.elim
  | .fail _, h, _ => by simp [allVU] at h
/-- What a call comes to, where it turns no block of its caller's. -/
theorem call_start {P : Program} {bs : Bds} {call : Callee} (hc : Callee.Sound P bs call) {f : Nat} {args : List MV} {vs : List Value} {S : St} {Γ : Ctx} {L : Nat → Prop} {fs : Facts} {w : World} (ha : ArgsRel Γ L args vs) (hS : S.rel Γ L w) (hL : ∀ j, L j → j < S.n) (hb : bs.hold Γ.ρ) (hf : fs.hold Γ.ρ)
    (hok : (call f args S fs).ok Γ.ρ) (hu : ∀ r g, (call f args S fs).at Γ.ρ = some (r, g) → r.upd = []) :
    Calls P f vs.toArray w fun e w' => (∃ v Γ' r g, e = .returned v ∧ (call f args S fs).at Γ.ρ = some (r, g) ∧ r.mv.rel Γ' v ∧ Γ'.ρ = Γ.ρ) ∧ Below w.heap.size w w' := by
  obtain ⟨_, h⟩ := hc L f args vs S fs Γ w ha hS hL hb hf hok
  refine h.mono fun e w' hh => ?_
  obtain ⟨v, Γ', r, g, rfl, h1, h2, h3⟩ := hh
  have := hu r g h1
  exact ⟨⟨v, Γ', r, g, rfl, h1, h2, h3.ρ⟩, h3.os, h3.tape, h3.output, h3.size, fun k hk => h3.keep k hk fun p hp => by rw [this] at hp; simp at hp⟩
theorem law_start {P : Program} {bs : Bds} {call : Callee} (hc : Callee.Sound P bs call) (hs : Callee.Sure bs call) {f : Nat} {args : List MV} {vs : List Value} {S : St} {Γ : Ctx} {L : Nat → Prop} {fs : Facts} {w : World} (ha : ArgsRel Γ L args vs) (hS : S.rel Γ L w) (hL : ∀ j, L j → j < S.n) (hb : bs.hold Γ.ρ) (hf : fs.hold Γ.ρ)
    (h : allTrueU bs (call f args S fs) = true) : Calls P f vs.toArray w fun e w' => e = .returned (.bool true) ∧ Below w.heap.size w w' := by
  obtain ⟨hok, hat⟩ := allTrueU_at hb h (hs f args S fs Γ.ρ hb hf)
  refine (call_start hc ha hS hL hb hf hok fun r g hr => (hat r g hr).1).mono fun e w' hh => ?_
  obtain ⟨⟨v, Γ', r, g, rfl, h1, h2, h3⟩, hbel⟩ := hh
  obtain ⟨_, e, h4, h5⟩ := hat r g h1
  rw [h4] at h2
  refine ⟨?_, hbel⟩
  rw [MV.rel_c h2]
  simp only [MC.den, h3, h5]
theorem ret_start {P : Program} {bs : Bds} {call : Callee} (hc : Callee.Sound P bs call) (hs : Callee.Sure bs call) {f n : Nat} {args : List MV} {vs : List Value} {S : St} {Γ : Ctx} {L : Nat → Prop} {fs : Facts} {w : World} {X : MV} {x : Value} (ha : ArgsRel Γ L args vs) (hS : S.rel Γ L w) (hL : ∀ j, L j → j < S.n) (hb : bs.hold Γ.ρ) (hf : fs.hold Γ.ρ)
    (hx : X.rel Γ x) (h : allVU bs n X (call f args S fs) = true) : Calls P f vs.toArray w fun e w' => e = .returned x ∧ Below w.heap.size w w' := by
  obtain ⟨hok, hat⟩ := allVU_at h (hs f args S fs Γ.ρ hb hf)
  refine (call_start hc ha hS hL hb hf hok fun r g hr => (hat r g hr).1).mono fun e w' hh => ?_
  obtain ⟨⟨v, Γ', r, g, rfl, h1, h2, h3⟩, hbel⟩ := hh
  obtain ⟨_, h4, h5⟩ := hat r g h1
  refine ⟨?_, hbel⟩
  rw [sameV_den (Γ := Γ) hb h4 Γ' h3 h5 h2 hx]

/-! ### A row of numbers in a block -/
/-- The cells from one on are these numbers. -/
structure RowIn (w : World) (g off : Nat) (ks : List IntKind) (n : Nat) (A : Nat → Int) : Prop where
  blk : ∃ (cs : Array Value) (t : Nat) (fr : Nat × Nat), w.heap[g]? = some (.cells cs t fr) ∧ off + n ≤ cs.size ∧ ∀ i, i < n → cs[off + i]? = some (.int (ks.getD (i % ks.length) .u8) (A i))
def rowS (ks : List IntKind) (n : E) : St := ({} : St).push (.arr (.av 0) ks (.var 91) n 0 0 [])
theorem rowS_get (ks : List IntKind) (n : E) (j : Nat) : (rowS ks n).get j = if j = 0 then .arr (.av 0) ks (.var 91) n 0 0 [] else .gone := by
  have h := St.get_push ({} : St) (.arr (.av 0) ks (.var 91) n 0 0 []) j (by show (0 : Nat) < 4095; omega)
  rw [show rowS ks n = ({} : St).push (.arr (.av 0) ks (.var 91) n 0 0 []) from rfl, h]
  rfl
/-- The reading: one block. -/
def Γ1 (ρ : Val) (g : Nat) : Ctx := ⟨ρ, fun j => g + j, fun _ => 0⟩
def L1 : Nat → Prop := fun j => j = 0
theorem row_rel {w : World} {g off m : Nat} {ks : List IntKind} {ρ : Val} {n : E} (h : RowIn w g off ks m (ρ.a 0)) (h0 : ρ.i 91 = off) (hn : n.I ρ = m) : (rowS ks n).rel (Γ1 ρ g) L1 w := by
  obtain ⟨cs, t, fr, h1, h2, h3⟩ := h.blk
  refine ⟨fun j => ?_, fun j => ?_, fun j hj => ?_, fun i j hi hj _ => ?_⟩
  · rw [rowS_get]
    by_cases hj : j = 0
    · subst hj
      rw [if_pos rfl]
      refine ⟨cs, fr, off, m, t, h1, by simp [E.I, Γ1, h0], by simp [Γ1, hn], by simpa using h2, h3, fun i v hv => by simp [densOf] at hv, fun h => absurd rfl h, fun q hq => by omega⟩
    · rw [if_neg hj]; trivial
  · rw [rowS_get]
    by_cases hj : j = 0
    · rw [if_pos hj]; exact fun m hm => absurd hm (by simp)
    · rw [if_neg hj]; trivial
  · rw [rowS_get] at hj
    by_cases h : j = 0
    · exact h
    · rw [if_neg h] at hj; exact absurd rfl hj
  · rw [rowS_get] at hi hj
    by_cases h : i = 0
    · by_cases h' : j = 0
      · omega
      · rw [if_neg h'] at hj; exact absurd rfl hj
    · rw [if_neg h] at hi; exact absurd rfl hi
/-- The slice over the row. -/
def rowM1 : MC := .slice 0 (.var 91) (.var 1) (.ex (.var 90))
def goneS : St := ⟨.e, 1⟩
theorem gone_rel (Γ : Ctx) (w : World) : goneS.rel Γ L1 w :=
  ⟨fun _ => trivial, fun _ => trivial, fun _ h => absurd rfl h, fun _ _ h => absurd rfl h⟩
/-- A slice that has no elements. -/
def emptyM : MC := .slice 0 (.var 91) (.lit 0) (.ex (.var 90))

/-! ### Functions of one slice -/
/-- What a function comes to, of every slice that is not empty. -/
def FnA (P : Program) (f : Nat) (ks : List IntKind) (R : (Nat → Int) → Nat → Value) : Prop :=
  ∀ (w : World) (g off len cap : Nat) (A : Nat → Int), 0 < len → len ≤ cap → len ≤ 70368744177663 → (∀ n, ∃ k ∈ ks, k.min ≤ A n ∧ A n ≤ k.max) → RowIn w g off ks (len * ks.length) A →
    Calls P f #[.slice (some ⟨g, off, none⟩) len cap] w fun e w' => e = .returned (R A len) ∧ Below w.heap.size w w'
theorem fnA_of {P : Program} {E : Env} {f n m : Nat} {ks : List IntKind} {R : (Nat → Int) → Nat → Value} (hm : P.follows .mixedOrders = true) (hE : E.Ok P) (hsum : Callee.Sound P E.bs E.sum) (hsure : Callee.Sure E.bs E.sum)
    (pro : (Nat → Int) → Nat → Nat → Nat → Val) (hpro : ∀ A off len cap, (pro A off len cap).i 91 = (off : Nat) ∧ (pro A off len cap).i 1 = (len : Nat) ∧ (pro A off len cap).i 90 = (cap : Nat) ∧ (pro A off len cap).a 0 = A)
    (hhold : ∀ A off len cap, 0 < len → len ≤ cap → len ≤ 70368744177663 → (∀ n, ∃ k ∈ ks, k.min ≤ A n ∧ A n ≤ k.max) → E.bs.hold (pro A off len cap))
    (cases : List (List (Sx.E × Bool))) (hcover : ∀ A off len cap, 0 < len → len ≤ cap → E.bs.hold (pro A off len cap) → ∃ c ∈ cases, Holds c (pro A off len cap)) (X : MV) (hX : ∀ A off len cap g, E.bs.hold (pro A off len cap) → X.rel (Γ1 (pro A off len cap) g) (R A len))
    (h : ∀ c ∈ cases, allVU E.bs m X (callF P E (evF P E n) f [.c rowM1] (rowS ks (mkMul (.var 1) (.lit ks.length))) (factsOf c)) = true) : FnA P f ks R := by
  intro w g off len cap A h0 hc hl hA hrow
  have hb := hhold A off len cap h0 hc hl hA
  obtain ⟨p0, p1, p2, p3⟩ := hpro A off len cap
  obtain ⟨c, hcm, hch⟩ := hcover A off len cap h0 hc hb
  have hn : (mkMul (.var 1) (.lit ks.length)).I (pro A off len cap) = (len * ks.length : Nat) := by
    rw [mkMul_I]; simp only [Sx.E.I, p1]; exact (Int.natCast_mul _ _).symm
  refine ret_start (Γ := Γ1 (pro A off len cap) g) (L := L1) (S := rowS ks (mkMul (.var 1) (.lit ks.length))) (vs := [.slice (some ⟨g, off, none⟩) len cap]) (fast_sound hm hE hsum hsure n) (fast_sure hE hsure n) ?_ (row_rel (by rw [p3]; exact hrow) p0 hn) (fun j hj => by rw [show j = 0 from hj]; show (0 : Nat) < 1; omega) hb
    (factsOf_hold hch) (hX A off len cap g hb) (h c hcm)
  refine .cons ⟨?_, ?_⟩ .nil
  · simp [MV.rel, MV.den, MC.den, Cap.den, rowM1, Sx.E.I, Γ1, p0, p1, p2]
  · show L1 0; rfl

/-! ### A table of such functions, by the blocks -/
abbrev KnownS := List MV → St → Facts → CT
structure EntryS (P : Program) (bs : Bds) (f : Nat) (c : KnownS) : Prop where
  sound : ∀ L args vs S fs Γ w, ArgsRel Γ L args vs → S.rel Γ L w → (∀ j, L j → j < S.n) → bs.hold Γ.ρ → fs.hold Γ.ρ → (c args S fs).ok Γ.ρ → CallOk P (c args S fs) L Γ S w f vs.toArray
  sure : ∀ args S fs ρ, bs.hold ρ → fs.hold ρ → (c args S fs).sure ρ
def EntriesS (P : Program) (bs : Bds) : List (Nat × KnownS) → Prop
  | [] => True
  | p :: l => EntryS P bs p.1 p.2 ∧ EntriesS P bs l
def tabS (l : List (Nat × KnownS)) (r : List (Nat × Known)) : Callee := fun f args S fs => match lookup f l with | some c => c args S fs | none => tabC r f args S fs
theorem EntriesS.get {P : Program} {bs : Bds} {f : Nat} {c : KnownS} : ∀ {l : List (Nat × KnownS)}, EntriesS P bs l → lookup f l = some c → EntryS P bs f c
  | [], _, h => by simp [lookup] at h
  | (k, a) :: r, hl, h => by
    simp only [lookup] at h
    split at h
    · rename_i hk
      have hk := Nat.eq_of_beq_eq_true hk
      subst hk
      cases h
      exact hl.1
    · exact EntriesS.get hl.2 h
theorem tabS_sound {P : Program} {bs : Bds} {l : List (Nat × KnownS)} {r : List (Nat × Known)} (hl : EntriesS P bs l) (hr : Entries P bs r) : Callee.Sound P bs (tabS l r) := by
  intro L f args vs S fs Γ w ha hS hL hb hf hok
  unfold tabS at hok ⊢
  split at hok
  · rename_i c hc
    try simp only [hc]
    exact (hl.get hc).sound L args vs S fs Γ w ha hS hL hb hf hok
  · exact tabC_sound hr L f args vs S fs Γ w ha hS hL hb hf hok
theorem tabS_sure {P : Program} {bs : Bds} {l : List (Nat × KnownS)} {r : List (Nat × Known)} (hl : EntriesS P bs l) (hr : Entries P bs r) : Callee.Sure bs (tabS l r) := by
  intro f args S fs ρ hb hf
  unfold tabS
  split
  · rename_i c hc
    exact (hl.get hc).sure args S fs ρ hb hf
  · exact tabC_sure hr f args S fs ρ hb hf
/-- A function of a slice over one row that is told. -/
def arrC (bs : Bds) (ks : List IntKind) (x0 l0 : E) (X : MV) : KnownS := fun args S fs =>
  match args with
  | [.c (.slice b o l c)] =>
    match S.get b with
    | .arr x ks' lo n _ wr _ =>
      match E.beq x x0 && (E.beq l l0 && (decide (ks = ks') && (E.beq o lo && (E.beq n (mkMul l (.lit ks.length)) && (match c with | .ex e => leB bs fs l e | .opn m => Nat.beq m 0 && (Nat.beq wr (ks.length + 2) && Nat.blt 0 ks.length)))))) with
      | true => .leaf { mv := X } fs
      | false => .fail 181
    | _ => .fail 182
  | _ => .fail 183
theorem arrC_entry {P : Program} {bs : Bds} {f : Nat} {ks : List IntKind} {R : (Nat → Int) → Nat → Value} {x0 l0 : E} {X : MV} (hfn : HasFn P f) (h : FnA P f ks R)
    (hr : ∀ ρ, bs.hold ρ → 0 < l0.I ρ ∧ l0.I ρ ≤ 70368744177663 ∧ (∀ n, ∃ k ∈ ks, k.min ≤ x0.A ρ n ∧ x0.A ρ n ≤ k.max)) (hX : ∀ Γ : Ctx, bs.hold Γ.ρ → X.rel Γ (R (x0.A Γ.ρ) (l0.I Γ.ρ).toNat)) (hXo : ∀ L, X.on L) : EntryS P bs f (arrC bs ks x0 l0 X) where
  sound L args vs S fs Γ w ha hS hL hb hf hok := by
    unfold arrC at hok ⊢
    split at hok
    · rename_i b o l c
      split at hok
      · rename_i x ks' lo n t wr tl hB
        split at hok
        · rename_i hc
          try simp only [hB]
          try simp only [hc]
          simp only [Bool.and_eq_true, decide_eq_true_eq] at hc
          obtain ⟨c1, c2, c3, c4, c5, c6⟩ := hc
          have c1 := E.eq_of c1; have c2 := E.eq_of c2; have c4 := E.eq_of c4; have c5 := E.eq_of c5
          subst c1 c2 c3 c4 c5
          obtain ⟨h1, h2, h3⟩ := hr Γ.ρ hb
          have hrel := hS.rel b
          rw [hB] at hrel
          obtain ⟨cs, fr, la, lm, tt, hh, hla, hlm, hsize, hcs, _, hwr, hq⟩ := hrel
          obtain ⟨len, hlen⟩ : ∃ len : Nat, l.I Γ.ρ = len := ⟨(l.I Γ.ρ).toNat, by omega⟩
          have hlm' : lm = len * ks.length := by
            rw [mkMul_I, hlen] at hlm
            simp only [E.I] at hlm
            have h2 : ((len * ks.length : Nat) : Int) = (len : Int) * (ks.length : Int) := Int.natCast_mul _ _
            omega
          have hcap : len ≤ c.den Γ b := by
            cases c with
            | ex e => have := leB_spec hb hf c6; simp only [Cap.den]; omega
            | opn m =>
              simp only [Bool.and_eq_true, Nat.blt_eq] at c6
              have e1 := Nat.eq_of_beq_eq_true c6.1
              have e2 := Nat.eq_of_beq_eq_true c6.2.1
              subst e1
              obtain ⟨g1, g2⟩ := hq ks.length e2
              simp only [Cap.den, Nat.sub_zero]
              subst hlm'
              have : len * ks.length ≤ Γ.sz b * ks.length := by omega
              exact Nat.le_of_mul_le_mul_right this c6.2.2
          have hrow : RowIn w (Γ.id b) la ks (len * ks.length) (x.A Γ.ρ) := ⟨cs, tt, fr, hh, by omega, fun i hi => hcs i (by omega)⟩
          have hcall := h w (Γ.id b) la len (c.den Γ b) (x.A Γ.ρ) (by omega) hcap (by omega) h3 hrow
          cases ha with
          | cons h1 t1 =>
            cases t1
            have hv := MV.rel_c h1.1
            subst hv
            have hv2 : MC.den Γ (.slice b o l c) = .slice (some ⟨Γ.id b, la, none⟩) len (c.den Γ b) := by
              simp only [MC.den, hlen, Int.toNat_natCast]
              rw [show (o.I Γ.ρ).toNat = la from by omega]
            rw [hv2]
            have hXv := hX Γ hb
            rw [hlen, Int.toNat_natCast] at hXv
            exact ⟨hfn, hcall.mono fun _ _ he => ⟨_, Γ, _, _, he.1, rfl, hXv, Step.below (hXo L) he.2⟩⟩
        · exact hok.elim
      · exact hok.elim
    · exact hok.elim
  sure args S fs ρ hb hf := by
    unfold arrC
    split
    · split
      · split
        · exact hf
        · trivial
      · trivial
    · trivial
end Sx
end Go.Proofs.Ytigblagodlfedaa
