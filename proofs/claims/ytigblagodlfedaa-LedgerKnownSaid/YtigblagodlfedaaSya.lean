/- Loops that are known by what they come to: what holds at the head is told by hand; one round is run. -/
import Derived.Test.YtigblagodlfedaaSxz
namespace Go.Proofs.Ytigblagodlfedaa
namespace Sx
open Go.RowKit

/-! ### Symbols below a number: those that a loop does not turn -/
/-- Which symbols are meant: those below a number, and some more. -/
structure Keys where
  M : Nat
  i : List Nat := []
  b : List Nat := []
  a : List Nat := []
def Keys.has (M : Nat) (l : List Nat) (j : Nat) : Bool := match Nat.blt j M with | true => true | false => elemN j l
def E.under (M : Keys) : E → Bool
  | .lit _ => true
  | .bl _ => true
  | .var i => Keys.has M.M M.i i
  | .bv i => Keys.has M.M M.b i
  | .av i => Keys.has M.M M.a i
  | .un _ a => a.under M
  | .bin _ a b => a.under M && b.under M
  | .ite c a b => c.under M && (a.under M && b.under M)
  | .upd x o v => x.under M && (o.under M && v.under M)
  | .sq _ _ => true
structure SameB (M : Keys) (v ρ : Val) : Prop where
  i : ∀ j, Keys.has M.M M.i j = true → v.i j = ρ.i j
  b : ∀ j, Keys.has M.M M.b j = true → v.b j = ρ.b j
  a : ∀ j, Keys.has M.M M.a j = true → v.a j = ρ.a j
  s : v.s = ρ.s
theorem SameB.symm {M : Keys} {v ρ : Val} (h : SameB M v ρ) : SameB M ρ v := ⟨fun j hj => (h.i j hj).symm, fun j hj => (h.b j hj).symm, fun j hj => (h.a j hj).symm, h.s.symm⟩
theorem SameB.trans {M : Keys} {v ρ τ : Val} (h : SameB M v ρ) (k : SameB M ρ τ) : SameB M v τ := ⟨fun j hj => (h.i j hj).trans (k.i j hj), fun j hj => (h.b j hj).trans (k.b j hj), fun j hj => (h.a j hj).trans (k.a j hj), h.s.trans k.s⟩
theorem below_eq {M : Keys} {v ρ : Val} (h : SameB M v ρ) : ∀ e : E, e.under M = true → e.I v = e.I ρ ∧ e.T v = e.T ρ ∧ e.A v = e.A ρ := by
  intro e
  induction e with
  | lit n => intro _; exact ⟨rfl, rfl, rfl⟩
  | bl b => intro _; exact ⟨rfl, rfl, rfl⟩
  | var i => intro hb; simp only [E.under] at hb; exact ⟨h.i i hb, rfl, rfl⟩
  | bv i => intro hb; simp only [E.under] at hb; exact ⟨rfl, h.b i hb, rfl⟩
  | av i => intro hb; simp only [E.under] at hb; exact ⟨rfl, rfl, h.a i hb⟩
  | un o a ih =>
    intro hb
    obtain ⟨h1, h2, h3⟩ := ih hb
    cases o <;> simp only [E.I, E.T, E.A, h1, h2, and_self]
  | bin o a b iha ihb =>
    intro hb
    simp only [E.under, Bool.and_eq_true] at hb
    obtain ⟨h1, h2, h3⟩ := iha hb.1
    obtain ⟨h4, h5, h6⟩ := ihb hb.2
    cases o <;> simp only [E.I, E.T, E.A, h1, h2, h3, h4, h5, and_self]
  | ite c a b ihc iha ihb =>
    intro hb
    simp only [E.under, Bool.and_eq_true] at hb
    obtain ⟨h1, h2, h3⟩ := ihc hb.1
    obtain ⟨h4, h5, h6⟩ := iha hb.2.1
    obtain ⟨h7, h8, h9⟩ := ihb hb.2.2
    simp only [E.I, E.T, E.A, h2, h4, h5, h6, h7, h8, h9, and_self]
  | upd x o v ihx iho ihv =>
    intro hb
    simp only [E.under, Bool.and_eq_true] at hb
    obtain ⟨h1, h2, h3⟩ := ihx hb.1
    obtain ⟨h4, h5, h6⟩ := iho hb.2.1
    obtain ⟨h7, h8, h9⟩ := ihv hb.2.2
    simp only [E.I, E.T, E.A, h3, h4, h7, and_self]
  | sq i s => intro _; simp only [E.I, E.T, E.A, h.s, and_self]
def Cap.below (M : Keys) : Cap → Bool
  | .ex e => e.under M | .opn _ => true
def capsLt (n : Nat) : List (Nat × Nat) → Bool
  | [] => true
  | p :: l => Nat.blt p.1 n && capsLt n l
/-- Nothing that a loop turns, and blocks below a number alone. -/
def MC.below (M : Keys) (n : Nat) : MC → Bool
  | .int _ e => e.under M
  | .bool e => e.under M
  | .ptr b o => Nat.blt b n && o.under M
  | .slice b o l c => Nat.blt b n && (o.under M && (l.under M && c.below M))
  | .fn _ caps => capsLt n caps
  | .emp b _ _ _ => Nat.blt b n
  | _ => true
def csBelow (M : Keys) (n : Nat) : List MC → Bool
  | [] => true
  | m :: l => m.below M n && csBelow M n l
def MV.below (M : Keys) (n : Nat) : MV → Bool
  | .unk => true
  | .und => true
  | .c m => m.below M n
  | .agg l => csBelow M n l
  | .tup _ => false
  | .row x o _ _ => x.under M && o.under M
def Blk.below (M : Keys) (n : Nat) : Blk → Bool
  | .gone => true
  | .cells cs _ _ => csBelow M n cs
  | .arr x _ lo m _ _ tl => x.under M && (lo.under M && (m.under M && csBelow M n tl))
/-- Blocks below a number alone. -/
def MC.lt (n : Nat) : MC → Bool
  | .ptr b _ => Nat.blt b n
  | .slice b _ _ _ => Nat.blt b n
  | .fn _ caps => capsLt n caps
  | .emp b _ _ _ => Nat.blt b n
  | _ => true
def csLt (n : Nat) : List MC → Bool
  | [] => true
  | m :: l => m.lt n && csLt n l
def MV.lt (n : Nat) : MV → Bool
  | .c m => m.lt n
  | .agg l => csLt n l
  | .tup _ => false
  | _ => true
def Blk.lt (n : Nat) : Blk → Bool
  | .gone => true
  | .cells cs _ _ => csLt n cs
  | .arr _ _ _ _ _ _ tl => csLt n tl
theorem MC.lt_of_below {M : Keys} {n : Nat} {m : MC} (h : m.below M n = true) : m.lt n = true := by
  cases m <;> simp only [MC.below, MC.lt, Bool.and_eq_true] at h ⊢
  · exact h.1
  · exact h.1
  · exact h
  · exact h
theorem csLt_of_below {M : Keys} {n : Nat} : ∀ {l : List MC}, csBelow M n l = true → csLt n l = true
  | [], _ => rfl
  | m :: l, h => by simp only [csBelow, csLt, Bool.and_eq_true] at h ⊢; exact ⟨MC.lt_of_below h.1, csLt_of_below h.2⟩
theorem MV.lt_of_below {M : Keys} {n : Nat} {m : MV} (h : m.below M n = true) : m.lt n = true := by
  cases m with
  | unk => rfl
  | und => rfl
  | c m => exact MC.lt_of_below h
  | agg l => exact csLt_of_below h
  | tup l => simp [MV.below] at h
  | row _ _ _ _ => rfl
theorem Blk.lt_of_below {M : Keys} {n : Nat} {b : Blk} (h : b.below M n = true) : b.lt n = true := by
  cases b with
  | gone => rfl
  | cells cs t q => exact csLt_of_below h
  | arr x ks lo m t w tl => simp only [Blk.below, Bool.and_eq_true] at h; exact csLt_of_below h.2.2.2
theorem capsLt_mem {n : Nat} : ∀ {l : List (Nat × Nat)}, capsLt n l = true → ∀ p ∈ l, p.1 < n
  | [], _, p, hp => by simp at hp
  | q :: l, h, p, hp => by
    simp only [capsLt, Bool.and_eq_true, Nat.blt_eq] at h
    rcases List.mem_cons.1 hp with rfl | hp
    · exact h.1
    · exact capsLt_mem h.2 p hp
theorem MC.on_lt {n : Nat} {L L' : Nat → Prop} (hl : ∀ j, j < n → L j → L' j) {m : MC} (h : m.lt n = true) (ho : m.on L) : m.on L' := by
  cases m <;> simp only [MC.lt, MC.on, Nat.blt_eq] at h ho ⊢
  · exact hl _ h ho
  · exact hl _ h ho
  · exact fun p hp => hl _ (capsLt_mem h p hp) (ho p hp)
  · exact hl _ h ho
theorem csOn_lt {n : Nat} {L L' : Nat → Prop} (hl : ∀ j, j < n → L j → L' j) : ∀ {l : List MC}, csLt n l = true → csOn L l → csOn L' l
  | [], _, _ => fun m hm => absurd hm (by simp)
  | m :: l, h, ho => by
    simp only [csLt, Bool.and_eq_true] at h
    intro x hx
    rcases List.mem_cons.1 hx with rfl | hx
    · exact MC.on_lt hl h.1 (ho _ (by simp))
    · exact csOn_lt hl h.2 (fun y hy => ho y (by simp [hy])) x hx
theorem MV.on_lt {n : Nat} {L L' : Nat → Prop} (hl : ∀ j, j < n → L j → L' j) {m : MV} (h : m.lt n = true) (ho : m.on L) : m.on L' := by
  cases m with
  | unk => trivial
  | und => trivial
  | c m => exact MC.on_lt hl h ho
  | agg l => exact csOn_lt hl h ho
  | tup l => simp [MV.lt] at h
  | row _ _ _ _ => trivial
theorem Blk.on_lt {n : Nat} {L L' : Nat → Prop} (hl : ∀ j, j < n → L j → L' j) {b : Blk} (h : b.lt n = true) (ho : b.on L) : b.on L' := by
  cases b with
  | gone => trivial
  | cells cs t q => exact csOn_lt hl h ho
  | arr x ks lo m t w tl => exact csOn_lt hl h ho
/-- The same reading of blocks, under other symbols. -/
def Ctx.at_ (Γ : Ctx) (v : Val) : Ctx := ⟨v, Γ.id, Γ.sz⟩
theorem Ctx.at_self (Γ : Ctx) : Γ.at_ Γ.ρ = Γ := rfl
theorem MC.below_den {M : Keys} {n : Nat} {v ρ : Val} (h : SameB M v ρ) {m : MC} (hb : m.below M n = true) (Γ : Ctx) : m.den (Γ.at_ v) = m.den (Γ.at_ ρ) := by
  cases m with
  | int k e => simp only [MC.den, Ctx.at_, (below_eq h e hb).1]
  | bool e => simp only [MC.den, Ctx.at_, (below_eq h e hb).2.1]
  | ptr b o => simp only [MC.below, Bool.and_eq_true] at hb; simp only [MC.den, Ctx.at_, (below_eq h o hb.2).1]
  | slice b o l c =>
    simp only [MC.below, Bool.and_eq_true] at hb
    have hc : c.den (Γ.at_ v) b = c.den (Γ.at_ ρ) b := by
      cases c with
      | ex e => simp only [Cap.den, Ctx.at_, (below_eq h e hb.2.2.2).1]
      | opn q => rfl
    simp only [MC.den, hc]
    simp only [Ctx.at_, (below_eq h o hb.2.1).1, (below_eq h l hb.2.2.1).1]
  | sv i => simp only [MC.den, Ctx.at_, h.s]
  | str s => rfl
  | nilp => rfl
  | nils => rfl
  | fn f c => rfl
  | nilf => rfl
  | emp b o m d => rfl
theorem cs_below_den {M : Keys} {n : Nat} {v ρ : Val} (h : SameB M v ρ) (Γ : Ctx) : ∀ {l : List MC}, csBelow M n l = true → densOf (Γ.at_ v) l = densOf (Γ.at_ ρ) l
  | [], _ => rfl
  | m :: l, hb => by
    simp only [csBelow, Bool.and_eq_true] at hb
    have ih := cs_below_den h Γ hb.2
    simp only [densOf, List.map_cons] at ih ⊢
    rw [MC.below_den h hb.1, ih]
theorem MV.below_rel {M : Keys} {n : Nat} {v ρ : Val} (h : SameB M v ρ) {m : MV} (hb : m.below M n = true) (Γ : Ctx) {x : Value} (hr : m.rel (Γ.at_ ρ) x) : m.rel (Γ.at_ v) x := by
  cases m with
  | unk => trivial
  | und => exact hr
  | c m => rw [MV.rel_c hr, ← MC.below_den h hb Γ]; rfl
  | agg l => rw [MV.rel_agg hr, ← cs_below_den h Γ hb]; rfl
  | tup l => simp [MV.below] at hb
  | row y o k m =>
    simp only [MV.below, Bool.and_eq_true] at hb
    have hr : x = .agg (rowDen (Γ.at_ ρ) y o k m).toArray := hr
    show x = .agg (rowDen (Γ.at_ v) y o k m).toArray
    have e : rowDen (Γ.at_ v) y o k m = rowDen (Γ.at_ ρ) y o k m := by
      show (List.range k).map (fun j => Value.int .u8 (y.A v ((o.I v).toNat + j))) ++ _ = (List.range k).map (fun j => Value.int .u8 (y.A ρ ((o.I ρ).toNat + j))) ++ _
      rw [(below_eq h y hb.1).2.2, (below_eq h o hb.2).1]
    rw [hr, e]
theorem Blk.below_rel {M : Keys} {n : Nat} {v ρ : Val} (h : SameB M v ρ) {b : Blk} (hb : b.below M n = true) (Γ : Ctx) {w : World} {j : Nat} (hr : b.rel (Γ.at_ ρ) w j) : b.rel (Γ.at_ v) w j := by
  cases b with
  | gone => trivial
  | cells cs t q =>
    obtain ⟨rest, h1, h2, h3⟩ := hr
    exact ⟨rest, by rw [cs_below_den h Γ hb]; exact h1, h2, h3⟩
  | arr x ks lo m t w tl =>
    simp only [Blk.below, Bool.and_eq_true] at hb
    obtain ⟨cs, fr, a, k, tt, h1, h2, h3, h4, h5, h6, h7⟩ := hr
    refine ⟨cs, fr, a, k, tt, h1, ?_, ?_, h4, ?_, ?_, h7⟩
    · show (a : Int) = lo.I v; rw [(below_eq h lo hb.2.1).1]; exact h2
    · show (k : Int) = m.I v; rw [(below_eq h m hb.2.2.1).1]; exact h3
    · show ∀ i, i < k → cs[a + i]? = some (.int (ks.getD (i % ks.length) .u8) (x.A v i)); rw [(below_eq h x hb.1).2.2]; exact h5
    · rw [cs_below_den h Γ hb.2.2.2]; exact h6

/-! ### Symbols for symbols -/
structure Sub where
  i : List (Nat × E) := []
  b : List (Nat × E) := []
  a : List (Nat × E) := []
def pick (j : Nat) (d : E) (l : List (Nat × E)) : E := match lookup j l with | some e => e | none => d
def E.sub (σ : Sub) : E → E
  | .lit n => .lit n
  | .bl b => .bl b
  | .var i => pick i (.var i) σ.i
  | .bv i => pick i (.bv i) σ.b
  | .av i => pick i (.av i) σ.a
  | .un o a => .un o (a.sub σ)
  | .bin o a b => .bin o (a.sub σ) (b.sub σ)
  | .ite c a b => .ite (c.sub σ) (a.sub σ) (b.sub σ)
  | .upd x o v => .upd (x.sub σ) (o.sub σ) (v.sub σ)
  | .sq i s => .sq i s
def Val.upd (ρ : Val) (σ : Sub) : Val := ⟨fun j => (pick j (.var j) σ.i).I ρ, fun j => (pick j (.bv j) σ.b).T ρ, fun j => (pick j (.av j) σ.a).A ρ, ρ.s⟩
/-- What an expression is: a number, a truth, an array; nothing else besides. -/
def E.isI : E → Bool
  | .lit _ => true
  | .var _ => true
  | .un (.wrap _) _ => true
  | .un (.fi _) _ => true
  | .bin .add _ _ => true | .bin .sub _ _ => true | .bin .mul _ _ => true | .bin .div _ _ => true | .bin .mod _ _ => true | .bin .quo _ _ => true | .bin .rem _ _ => true
  | .bin (.bits _ _) _ _ => true | .bin (.gi _) _ _ => true | .bin .rd _ _ => true
  | .ite _ a b => a.isI && b.isI
  | _ => false
def E.isB : E → Bool
  | .bl _ => true
  | .bv _ => true
  | .un .not _ => true
  | .un (.fb _) _ => true
  | .bin .eq _ _ => true | .bin .lt _ _ => true | .bin .le _ _ => true | .bin .and _ _ => true | .bin .or _ _ => true | .bin (.gb _) _ _ => true
  | .ite _ a b => a.isB && b.isB
  | .sq _ _ => true
  | _ => false
def E.isA : E → Bool
  | .av _ => true
  | .upd _ _ _ => true
  | .ite _ a b => a.isA && b.isA
  | .bl b => !b
  | _ => false
theorem isI_spec (ρ : Val) : ∀ e : E, e.isI = true → e.T ρ = false ∧ e.A ρ = fun _ => 0 := by
  intro e
  induction e with
  | ite c a b _ iha ihb =>
    intro h
    simp only [E.isI, Bool.and_eq_true] at h
    obtain ⟨h1, h2⟩ := iha h.1
    obtain ⟨h3, h4⟩ := ihb h.2
    simp only [E.T, E.A, h1, h2, h3, h4, ite_self, and_self]
  | un o a _ => intro h; cases o <;> simp [E.isI] at h <;> simp [E.T, E.A]
  | bin o a b _ _ => intro h; cases o <;> simp [E.isI] at h <;> simp [E.T, E.A]
  | lit n => intro _; simp [E.T, E.A]
  | var n => intro _; simp [E.T, E.A]
  | _ => intro h; simp [E.isI] at h
theorem isB_spec (ρ : Val) : ∀ e : E, e.isB = true → e.I ρ = 0 ∧ e.A ρ = fun _ => 0 := by
  intro e
  induction e with
  | ite c a b _ iha ihb =>
    intro h
    simp only [E.isB, Bool.and_eq_true] at h
    obtain ⟨h1, h2⟩ := iha h.1
    obtain ⟨h3, h4⟩ := ihb h.2
    simp only [E.I, E.A, h1, h2, h3, h4, ite_self, and_self]
  | un o a _ => intro h; cases o <;> simp [E.isB] at h <;> simp [E.I, E.A]
  | bin o a b _ _ => intro h; cases o <;> simp [E.isB] at h <;> simp [E.I, E.A]
  | bl n => intro _; simp [E.I, E.A]
  | bv n => intro _; simp [E.I, E.A]
  | sq i s => intro _; simp [E.I, E.A]
  | _ => intro h; simp [E.isB] at h
theorem isA_spec (ρ : Val) : ∀ e : E, e.isA = true → e.I ρ = 0 ∧ e.T ρ = false := by
  intro e
  induction e with
  | ite c a b _ iha ihb =>
    intro h
    simp only [E.isA, Bool.and_eq_true] at h
    obtain ⟨h1, h2⟩ := iha h.1
    obtain ⟨h3, h4⟩ := ihb h.2
    simp only [E.I, E.T, h1, h2, h3, h4, ite_self, and_self]
  | av n => intro _; simp [E.I, E.T]
  | upd x o v _ _ _ => intro _; simp [E.I, E.T]
  | bl b => intro h; simp only [E.isA, Bool.not_eq_true'] at h; subst h; simp [E.I, E.T]
  | _ => intro h; simp [E.isA] at h
def allE (p : E → Bool) : List (Nat × E) → Bool
  | [] => true
  | q :: l => p q.2 && allE p l
def Sub.ok (σ : Sub) : Bool := allE E.isI σ.i && (allE E.isB σ.b && allE E.isA σ.a)
theorem pick_of {p : E → Bool} {j : Nat} {d : E} (hd : p d = true) : ∀ {l : List (Nat × E)}, allE p l = true → p (pick j d l) = true
  | [], _ => hd
  | q :: l, h => by
    simp only [allE, Bool.and_eq_true] at h
    unfold pick lookup
    by_cases hq : Nat.beq q.1 j = true
    · rw [if_pos hq]; exact h.1
    · rw [if_neg hq]; exact pick_of hd h.2
theorem sub_eq {σ : Sub} (hσ : σ.ok = true) (ρ : Val) : ∀ e : E, (e.sub σ).I ρ = e.I (ρ.upd σ) ∧ (e.sub σ).T ρ = e.T (ρ.upd σ) ∧ (e.sub σ).A ρ = e.A (ρ.upd σ) := by
  simp only [Sub.ok, Bool.and_eq_true] at hσ
  intro e
  induction e with
  | lit n => exact ⟨rfl, rfl, rfl⟩
  | bl b => exact ⟨rfl, rfl, rfl⟩
  | var i =>
    obtain ⟨h1, h2⟩ := isI_spec ρ _ (pick_of (j := i) (d := .var i) rfl hσ.1)
    exact ⟨rfl, h1, h2⟩
  | bv i =>
    obtain ⟨h1, h2⟩ := isB_spec ρ _ (pick_of (j := i) (d := .bv i) rfl hσ.2.1)
    exact ⟨h1, rfl, h2⟩
  | av i =>
    obtain ⟨h1, h2⟩ := isA_spec ρ _ (pick_of (j := i) (d := .av i) rfl hσ.2.2)
    exact ⟨h1, h2, rfl⟩
  | un o a ih =>
    obtain ⟨h1, h2, h3⟩ := ih
    cases o <;> simp only [E.sub, E.I, E.T, E.A, h1, h2, and_self]
  | bin o a b iha ihb =>
    obtain ⟨h1, h2, h3⟩ := iha
    obtain ⟨h4, h5, h6⟩ := ihb
    cases o <;> simp only [E.sub, E.I, E.T, E.A, h1, h2, h3, h4, h5, and_self]
  | ite c a b ihc iha ihb =>
    obtain ⟨h1, h2, h3⟩ := ihc
    obtain ⟨h4, h5, h6⟩ := iha
    obtain ⟨h7, h8, h9⟩ := ihb
    simp only [E.sub, E.I, E.T, E.A, h2, h4, h5, h6, h7, h8, h9, and_self]
  | upd x o v ihx iho ihv =>
    obtain ⟨h1, h2, h3⟩ := ihx
    obtain ⟨h4, h5, h6⟩ := iho
    obtain ⟨h7, h8, h9⟩ := ihv
    simp only [E.sub, E.I, E.T, E.A, h3, h4, h7, and_self]
  | sq i s => exact ⟨rfl, rfl, rfl⟩
def Cap.sub (σ : Sub) : Cap → Cap
  | .ex e => .ex (e.sub σ) | .opn m => .opn m
def MC.sub (σ : Sub) : MC → MC
  | .int k e => .int k (e.sub σ)
  | .bool e => .bool (e.sub σ)
  | .ptr b o => .ptr b (o.sub σ)
  | .slice b o l c => .slice b (o.sub σ) (l.sub σ) (c.sub σ)
  | m => m
def csSub (σ : Sub) : List MC → List MC
  | [] => []
  | m :: l => m.sub σ :: csSub σ l
def MV.sub (σ : Sub) : MV → MV
  | .c m => .c (m.sub σ)
  | .agg l => .agg (csSub σ l)
  | .row x o n m => .row (x.sub σ) (o.sub σ) n m
  | m => m
def Blk.sub (σ : Sub) : Blk → Blk
  | .cells cs t q => .cells (csSub σ cs) t q
  | .arr x ks lo m t w tl => .arr (x.sub σ) ks (lo.sub σ) (m.sub σ) t w (csSub σ tl)
  | .gone => .gone
theorem MC.sub_den {σ : Sub} (hσ : σ.ok = true) (Γ : Ctx) (ρ : Val) (m : MC) : (m.sub σ).den (Γ.at_ ρ) = m.den (Γ.at_ (ρ.upd σ)) := by
  have h := sub_eq hσ ρ
  cases m with
  | int k e => simp only [MC.sub, MC.den, Ctx.at_, (h e).1]
  | bool e => simp only [MC.sub, MC.den, Ctx.at_, (h e).2.1]
  | ptr b o => simp only [MC.sub, MC.den, Ctx.at_, (h o).1]
  | slice b o l c =>
    have hc : (c.sub σ).den (Γ.at_ ρ) b = c.den (Γ.at_ (ρ.upd σ)) b := by
      cases c with
      | ex e => simp only [Cap.sub, Cap.den, Ctx.at_, (h e).1]
      | opn q => rfl
    simp only [MC.sub, MC.den, hc]
    simp only [Ctx.at_, (h o).1, (h l).1]
  | sv i => rfl
  | str s => rfl
  | nilp => rfl
  | nils => rfl
  | fn f c => rfl
  | nilf => rfl
  | emp b o m d => rfl
theorem cs_sub_den {σ : Sub} (hσ : σ.ok = true) (Γ : Ctx) (ρ : Val) : ∀ l : List MC, densOf (Γ.at_ ρ) (csSub σ l) = densOf (Γ.at_ (ρ.upd σ)) l
  | [] => rfl
  | m :: l => by
    have ih := cs_sub_den hσ Γ ρ l
    simp only [densOf, csSub, List.map_cons] at ih ⊢
    rw [MC.sub_den hσ, ih]
theorem csSub_length (σ : Sub) : ∀ l : List MC, (csSub σ l).length = l.length
  | [] => rfl
  | m :: l => by simp [csSub, csSub_length σ l]
theorem MV.sub_rel {σ : Sub} (hσ : σ.ok = true) (Γ : Ctx) (ρ : Val) {m : MV} (hm : m.lt 0 = true ∨ ∀ l, m ≠ .tup l) {x : Value} : (m.sub σ).rel (Γ.at_ ρ) x ↔ m.rel (Γ.at_ (ρ.upd σ)) x := by
  cases m with
  | unk => exact Iff.rfl
  | und => exact Iff.rfl
  | c m => simp only [MV.sub, MV.rel, MV.den, MC.sub_den hσ]
  | agg l => simp only [MV.sub, MV.rel, MV.den, cs_sub_den hσ]
  | row y o k m =>
    have h := sub_eq hσ ρ
    show (x = .agg (rowDen (Γ.at_ ρ) (y.sub σ) (o.sub σ) k m).toArray) ↔ (x = .agg (rowDen (Γ.at_ (ρ.upd σ)) y o k m).toArray)
    have e : rowDen (Γ.at_ ρ) (y.sub σ) (o.sub σ) k m = rowDen (Γ.at_ (ρ.upd σ)) y o k m := by
      show (List.range k).map (fun j => Value.int .u8 ((y.sub σ).A ρ (((o.sub σ).I ρ).toNat + j))) ++ _ = (List.range k).map (fun j => Value.int .u8 (y.A (ρ.upd σ) ((o.I (ρ.upd σ)).toNat + j))) ++ _
      rw [(h y).2.2, (h o).1]
    rw [e]
  | tup l =>
    rcases hm with h | h
    · simp [MV.lt] at h
    · exact absurd rfl (h l)
theorem Blk.sub_rel {σ : Sub} (hσ : σ.ok = true) (Γ : Ctx) (ρ : Val) {b : Blk} {w : World} {j : Nat} : (b.sub σ).rel (Γ.at_ ρ) w j ↔ b.rel (Γ.at_ (ρ.upd σ)) w j := by
  cases b with
  | gone => exact Iff.rfl
  | cells cs t q => simp only [Blk.sub, Blk.rel, cs_sub_den hσ, csSub_length]; exact Iff.rfl
  | arr x ks lo m t w' tl =>
    have h := sub_eq hσ ρ
    simp only [Blk.sub, Blk.rel, cs_sub_den hσ, csSub_length]
    show (∃ (cs : Array Value) (fr : Nat × Nat) (a k _ : Nat), _ ∧ (a : Int) = (lo.sub σ).I ρ ∧ (k : Int) = (m.sub σ).I ρ ∧ _ ∧ (∀ i : Nat, i < k → cs[a + i]? = some (Value.int (ks.getD (i % ks.length) .u8) ((x.sub σ).A ρ i))) ∧ _) ↔ _
    rw [(h lo).1, (h m).1, (h x).2.2]
    exact Iff.rfl
theorem MC.sub_on {σ : Sub} {L : Nat → Prop} {m : MC} : (m.sub σ).on L ↔ m.on L := by cases m <;> exact Iff.rfl
theorem cs_sub_on {σ : Sub} {L : Nat → Prop} : ∀ {l : List MC}, csOn L (csSub σ l) ↔ csOn L l
  | [] => Iff.rfl
  | m :: l => by
    constructor
    · intro h x hx
      rcases List.mem_cons.1 hx with rfl | hx
      · exact (MC.sub_on (σ := σ)).1 (h _ (by simp [csSub]))
      · exact cs_sub_on.1 (fun y hy => h y (by simp only [csSub]; exact List.mem_cons.2 (.inr hy))) x hx
    · intro h x hx
      simp only [csSub] at hx
      rcases List.mem_cons.1 hx with rfl | hx
      · exact MC.sub_on.2 (h _ (by simp))
      · exact cs_sub_on.2 (fun y hy => h y (by simp [hy])) x hx
theorem MV.sub_on {σ : Sub} {L : Nat → Prop} {m : MV} : (m.sub σ).on L ↔ m.on L := by
  cases m with
  | c m => exact MC.sub_on
  | agg l => exact cs_sub_on
  | unk => exact Iff.rfl
  | und => exact Iff.rfl
  | tup l => exact Iff.rfl
  | row _ _ _ _ => exact Iff.rfl
theorem Blk.sub_on {σ : Sub} {L : Nat → Prop} {b : Blk} : (b.sub σ).on L ↔ b.on L := by
  cases b with
  | gone => exact Iff.rfl
  | cells cs t q => exact cs_sub_on
  | arr x ks lo m t w tl => exact cs_sub_on

/-! ### A leaf under other symbols -/
/-- What is known of a value ahead and behind: not more, and nothing else. -/
structure MoveV (ρ v : Val) (n : Nat) (m m' : MV) : Prop where
  rel : ∀ Γ x, m.rel (Ctx.at_ Γ ρ) x → m'.rel (Ctx.at_ Γ v) x
  lt : m'.lt n = true
  on : ∀ L : Nat → Prop, m.on L → m'.on L
structure MoveB (ρ v : Val) (n : Nat) (b b' : Blk) : Prop where
  rel : ∀ Γ w j, b.rel (Ctx.at_ Γ ρ) w j → b'.rel (Ctx.at_ Γ v) w j
  lt : b'.lt n = true
  on : ∀ L : Nat → Prop, b.on L → b'.on L
  gone : ¬ b'.Gone → ¬ b.Gone
theorem MoveV.unk (ρ v : Val) (n : Nat) (m : MV) : MoveV ρ v n m .unk := ⟨fun _ _ _ => trivial, rfl, fun _ _ => trivial⟩
theorem MoveB.gone_ (ρ v : Val) (n : Nat) (b : Blk) : MoveB ρ v n b .gone := ⟨fun _ _ _ _ => trivial, rfl, fun _ _ => trivial, fun h => absurd rfl h⟩
theorem MoveV.keep {M : Keys} {n : Nat} {v ρ : Val} (h : SameB M v ρ) {m : MV} (hb : m.below M n = true) : MoveV ρ v n m m := ⟨fun Γ _ hr => MV.below_rel h hb Γ hr, MV.lt_of_below hb, fun _ h => h⟩
theorem MoveB.keep {M : Keys} {n : Nat} {v ρ : Val} (h : SameB M v ρ) {b : Blk} (hb : b.below M n = true) : MoveB ρ v n b b := ⟨fun Γ _ _ hr => Blk.below_rel h hb Γ hr, Blk.lt_of_below hb, fun _ h => h, fun h => h⟩
theorem MV.not_tup {n : Nat} {m : MV} (h : m.lt n = true) : ∀ l, m ≠ .tup l := fun l e => by subst e; simp [MV.lt] at h
theorem MoveV.sub {σ : Sub} (hσ : σ.ok = true) {ρ : Val} {n : Nat} {m : MV} (hl : m.lt n = true) : MoveV ρ (ρ.upd σ) n (m.sub σ) m :=
  ⟨fun Γ _ hr => (MV.sub_rel hσ Γ ρ (.inr (MV.not_tup hl))).1 hr, hl, fun _ h => MV.sub_on.1 h⟩
theorem MoveB.sub {σ : Sub} (hσ : σ.ok = true) {ρ : Val} {n : Nat} {b : Blk} (hl : b.lt n = true) : MoveB ρ (ρ.upd σ) n (b.sub σ) b :=
  ⟨fun Γ _ _ hr => (Blk.sub_rel hσ Γ ρ).1 hr, hl, fun _ h => Blk.sub_on.1 h, fun h hg => h (by cases b <;> simp [Blk.sub, Blk.Gone] at hg ⊢)⟩
theorem At.move {L0 : Nat → Prop} {Γ0 Γ : Ctx} {S0 : St} {w0 w : World} {l l' : Leaf} {a : Act} (h : At L0 Γ0 S0 w0 Γ l a w) {v : Val}
    (hn0 : S0.n ≤ l'.S.n) (hN : l'.N = l.N) (hfr : ∀ t, MoveV Γ.ρ v l'.S.n (l.fr.get .unk t) (l'.fr.get .unk t)) (hS : ∀ j, MoveB Γ.ρ v l'.S.n (l.S.get j) (l'.S.get j)) (hlive : ∀ j, ¬ (l'.S.get j).Gone → j < l'.S.n)
    (hfs : l'.fs.hold v) (hd : ∀ j ∈ l.d, j < l'.S.n → j ∈ l'.d) : At L0 (Γ0.at_ v) S0 w0 (Γ.at_ v) l' a w := by
  have hsc : ∀ j, j < l'.S.n → Sc L0 S0.n l.S.n j → Sc L0 S0.n l'.S.n j := fun j hj hs => hs.imp id fun h => ⟨h.1, hj⟩
  refine ⟨h.lt, ⟨h.fr.defers, by rw [hN]; exact h.fr.size, by rw [hN]; exact h.fr.lt, fun t => (hfr t).rel Γ _ (h.fr.rel t), fun t => MV.on_lt hsc (hfr t).lt ((hfr t).on _ (h.fr.on t))⟩,
    ⟨fun j => (hS j).rel Γ w j (h.S.rel j), fun j => Blk.on_lt hsc (hS j).lt ((hS j).on _ (h.S.on j)), fun j hj => hsc j (hlive j hj) (h.S.live j ((hS j).gone hj)), fun i j hi hj hij => h.S.inj i j ((hS i).gone hi) ((hS j).gone hj) hij⟩, hfs,
    { ρ := rfl, n := hn0, id := h.far.id, sz := h.far.sz, os := h.far.os, tape := h.far.tape, output := h.far.output, size := h.far.size,
      keep := fun k hk hj => h.far.keep k hk fun j hjd hj0 => hj j (hd j hjd (by omega)) hj0,
      fresh := fun j hj hg => (h.far.fresh j hj ((hS j).gone hg)).imp id fun ⟨p, hp, h2⟩ => ⟨p, hd p hp (by have := h2.1; omega), h2⟩,
      gone := fun j hj hg => h.far.gone j hj ((hS j).gone hg) }⟩

/-! ### Blocks by another number -/
def renN (b J x : Nat) : Nat := match Nat.beq x b with | true => J | false => x
def MC.ren (b J : Nat) : MC → Option MC
  | .ptr x o => match Nat.beq x J with | true => none | false => some (.ptr (renN b J x) o)
  | .slice x o l c => match Nat.beq x J with | true => none | false => some (.slice (renN b J x) o l c)
  | .emp x o m d => match Nat.beq x J with | true => none | false => some (.emp (renN b J x) o m d)
  | .fn f [] => some (.fn f [])
  | .fn _ _ => none
  | m => some m
def csRen (b J : Nat) : List MC → Option (List MC)
  | [] => some []
  | m :: l => match m.ren b J with
    | some m => (match csRen b J l with | some l => some (m :: l) | none => none)
    | none => none
def MV.ren (b J : Nat) : MV → MV
  | .c m => (match m.ren b J with | some m => .c m | none => .unk)
  | .agg l => (match csRen b J l with | some l => .agg l | none => .unk)
  | .tup _ => .unk
  | m => m
def Blk.ren (b J : Nat) : Blk → Blk
  | .cells cs t q => (match csRen b J cs with | some cs => .cells cs t q | none => .gone)
  | .arr x ks lo n t w tl => (match csRen b J tl with | some tl => .arr x ks lo n t w tl | none => .gone)
  | .gone => .gone
def mapT {α : Type} (f : α → α) : Tri α → Tri α
  | .e => .e
  | .n l v r => .n (mapT f l) (f v) (mapT f r)
theorem mapT_get {α : Type} {z : α} {f : α → α} (hz : f z = z) : ∀ (t : Tri α) (i : Nat), (mapT f t).get z i = f (t.get z i)
  | .e, i => by simp only [mapT, Tri.get_e, hz]
  | .n l v r, t => by
    rcases Tri.cases3 t with rfl | ⟨t, rfl⟩ | ⟨t, rfl⟩
    · rfl
    · simp only [mapT, Tri.get_n_odd]; exact mapT_get hz l t
    · simp only [mapT, Tri.get_n_even]; exact mapT_get hz r t
structure Ren (Γ Γ' : Ctx) (b J : Nat) : Prop where
  ρ : Γ'.ρ = Γ.ρ
  id : ∀ x, x ≠ J → Γ'.id (renN b J x) = Γ.id x
  sz : ∀ x, x ≠ J → Γ'.sz (renN b J x) = Γ.sz x
theorem beq_no {x J : Nat} (h : Nat.beq x J = false) : x ≠ J := fun e => by rw [e, Nat.beq_refl] at h; cases h
theorem MC.ren_spec {Γ Γ' : Ctx} {b J : Nat} (h : Ren Γ Γ' b J) {L L' : Nat → Prop} (hL : ∀ x, L x → x ≠ J → L' (renN b J x)) {m m' : MC} (hm : m.ren b J = some m') : m'.den Γ' = m.den Γ ∧ (m.on L → m'.on L') := by
  cases m with
  | ptr x o =>
    simp only [MC.ren] at hm
    split at hm
    · cases hm
    · rename_i hx
      cases hm
      exact ⟨by simp only [MC.den, h.ρ, h.id x (beq_no hx)], fun ho => hL x ho (beq_no hx)⟩
  | slice x o l c =>
    simp only [MC.ren] at hm
    split at hm
    · cases hm
    · rename_i hx
      cases hm
      have hc : c.den Γ' (renN b J x) = c.den Γ x := by cases c <;> simp only [Cap.den, h.ρ, h.sz x (beq_no hx)]
      exact ⟨by simp only [MC.den, h.ρ, h.id x (beq_no hx), hc], fun ho => hL x ho (beq_no hx)⟩
  | emp x o k d =>
    simp only [MC.ren] at hm
    split at hm
    · cases hm
    · rename_i hx
      cases hm
      exact ⟨by simp only [MC.den, h.id x (beq_no hx), h.sz x (beq_no hx)], fun ho => hL x ho (beq_no hx)⟩
  | fn f caps =>
    cases caps with
    | nil => simp only [MC.ren, Option.some.injEq] at hm; subst hm; exact ⟨rfl, fun _ p hp => absurd hp (by simp)⟩
    | cons p l => simp [MC.ren] at hm
  | _ => simp only [MC.ren, Option.some.injEq] at hm; subst hm; exact ⟨by simp only [MC.den, h.ρ], fun _ => trivial⟩
theorem csRen_spec {Γ Γ' : Ctx} {b J : Nat} (h : Ren Γ Γ' b J) {L L' : Nat → Prop} (hL : ∀ x, L x → x ≠ J → L' (renN b J x)) : ∀ {l l' : List MC}, csRen b J l = some l' → densOf Γ' l' = densOf Γ l ∧ (csOn L l → csOn L' l') ∧ l'.length = l.length
  | [], l', hl => by simp only [csRen, Option.some.injEq] at hl; subst hl; exact ⟨rfl, fun _ m hm => absurd hm (by simp), rfl⟩
  | m :: l, l', hl => by
    unfold csRen at hl
    split at hl
    · rename_i m' hm
      split at hl
      · rename_i r' hr
        cases hl
        obtain ⟨h1, h2⟩ := MC.ren_spec h hL hm
        obtain ⟨h3, h4, h5⟩ := csRen_spec h hL hr
        refine ⟨?_, fun ho x hx => ?_, by simp [h5]⟩
        · show m'.den Γ' :: densOf Γ' r' = m.den Γ :: densOf Γ l
          rw [h1, h3]
        · rcases List.mem_cons.1 hx with rfl | hx
          · exact h2 (ho m (by simp))
          · exact h4 (fun y hy => ho y (by simp [hy])) x hx
      · cases hl
    · cases hl
theorem MV.ren_spec {Γ Γ' : Ctx} {b J : Nat} (h : Ren Γ Γ' b J) {L L' : Nat → Prop} (hL : ∀ x, L x → x ≠ J → L' (renN b J x)) {m : MV} {v : Value} (hr : m.rel Γ v) (ho : m.on L) : (m.ren b J).rel Γ' v ∧ (m.ren b J).on L' := by
  cases m with
  | unk => exact ⟨trivial, trivial⟩
  | und => exact ⟨hr, trivial⟩
  | tup l => exact ⟨trivial, trivial⟩
  | row x o n k => exact ⟨by simp only [MV.ren, MV.rel, MV.den, rowDen, h.ρ] at hr ⊢; exact hr, trivial⟩
  | c m =>
    unfold MV.ren
    simp only
    cases hm : m.ren b J with
    | none => exact ⟨trivial, trivial⟩
    | some m' =>
      obtain ⟨h1, h2⟩ := MC.ren_spec h hL hm
      exact ⟨by show v = m'.den Γ'; rw [h1]; exact hr, h2 ho⟩
  | agg l =>
    unfold MV.ren
    simp only
    cases hm : csRen b J l with
    | none => exact ⟨trivial, trivial⟩
    | some l' =>
      obtain ⟨h1, h2, _⟩ := csRen_spec h hL hm
      exact ⟨by show v = .agg (densOf Γ' l').toArray; rw [h1]; exact hr, h2 ho⟩
theorem Blk.ren_spec {Γ Γ' : Ctx} {b J : Nat} (h : Ren Γ Γ' b J) {L L' : Nat → Prop} (hL : ∀ x, L x → x ≠ J → L' (renN b J x)) {w : World} {i i' : Nat} (hid : Γ'.id i' = Γ.id i) (hsz : Γ'.sz i' = Γ.sz i) {k : Blk} (hr : k.rel Γ w i) (ho : k.on L) :
    (k.ren b J).rel Γ' w i' ∧ (k.ren b J).on L' ∧ (¬ (k.ren b J).Gone → ¬ k.Gone) := by
  cases k with
  | gone => exact ⟨trivial, trivial, fun h => h⟩
  | cells cs t q =>
    unfold Blk.ren
    simp only
    cases hm : csRen b J cs with
    | none => exact ⟨trivial, trivial, fun h => absurd rfl h⟩
    | some cs' =>
      obtain ⟨h1, h2, h3⟩ := csRen_spec h hL hm
      obtain ⟨rest, r1, r2, r3⟩ := hr
      exact ⟨⟨rest, by rw [hid, h1]; exact r1, r2, fun hq => by rw [h3, hsz]; exact r3 hq⟩, h2 ho, fun _ => by simp [Blk.Gone]⟩
  | arr x ks lo n t wr tl =>
    unfold Blk.ren
    simp only
    cases hm : csRen b J tl with
    | none => exact ⟨trivial, trivial, fun h => absurd rfl h⟩
    | some tl' =>
      obtain ⟨h1, h2, h3⟩ := csRen_spec h hL hm
      obtain ⟨cs, fr, a, m, tt, r1, r2, r3, r4, r5, r6, r7, r8⟩ := hr
      exact ⟨⟨cs, fr, a, m, tt, by rw [hid]; exact r1, by rw [h.ρ]; exact r2, by rw [h.ρ]; exact r3, by rw [h3]; exact r4, by rw [h.ρ]; exact r5, by rw [h1]; exact r6, r7, fun q hq => by rw [hsz]; exact r8 q hq⟩, h2 ho, fun _ => by simp [Blk.Gone]⟩
def renL (b J : Nat) (l : Leaf) : Leaf :=
  ⟨l.ex, l.N, mapT (MV.ren b J) l.fr, ⟨((mapT (Blk.ren b J) l.S.t).set .gone b .gone).set .gone J ((l.S.get b).ren b J), match Nat.blt J l.S.n with | true => l.S.n | false => J + 1⟩, l.fs, b :: l.d⟩
def Ctx.ren (Γ : Ctx) (b J : Nat) : Ctx := ⟨Γ.ρ, fun x => if x = J then Γ.id b else Γ.id x, fun x => if x = J then Γ.sz b else Γ.sz x⟩
theorem Ctx.ren_ok (Γ : Ctx) (b J : Nat) : Ren Γ (Γ.ren b J) b J := by
  refine ⟨rfl, fun x hx => ?_, fun x hx => ?_⟩
  · unfold renN Ctx.ren
    simp only
    cases h : Nat.beq x b with
    | true => simp only [if_true]; rw [Nat.eq_of_beq_eq_true h]
    | false => simp only [if_neg hx]
  · unfold renN Ctx.ren
    simp only
    cases h : Nat.beq x b with
    | true => simp only [if_true]; rw [Nat.eq_of_beq_eq_true h]
    | false => simp only [if_neg hx]
theorem renL_n (b J : Nat) (l : Leaf) : l.S.n ≤ (renL b J l).S.n ∧ J < (renL b J l).S.n := by
  unfold renL
  simp only
  cases h : Nat.blt J l.S.n with
  | true => exact ⟨Nat.le_refl _, by rwa [Nat.blt_eq] at h⟩
  | false =>
    have : ¬ J < l.S.n := by rw [← Nat.blt_eq, h]; simp
    exact ⟨by show l.S.n ≤ J + 1; omega, by show J < J + 1; omega⟩
theorem renL_get {b J : Nat} (hb : b < 4095) (hJ : J < 4095) (l : Leaf) (u : Nat) : (renL b J l).S.get u = if u = J then (l.S.get b).ren b J else if u = b then .gone else (l.S.get u).ren b J := by
  show (((mapT (Blk.ren b J) l.S.t).set .gone b .gone).set .gone J ((l.S.get b).ren b J)).get .gone u = _
  rw [Tri.get_set _ _ _ _ hJ, Tri.get_set _ _ _ _ hb, mapT_get rfl]
  rfl
/-- A block goes by a number that the start does not know. -/
theorem At.ren {L0 : Nat → Prop} {Γ0 Γ : Ctx} {S0 : St} {w0 w : World} {l : Leaf} {a : Act} (h : At L0 Γ0 S0 w0 Γ l a w) {b J : Nat} (hb : b < 4095) (hJ : J < 4095) (hne : b ≠ J) (h0 : S0.n ≤ J) : At L0 Γ0 S0 w0 (Γ.ren b J) (renL b J l) a w := by
  have hr := Γ.ren_ok b J
  obtain ⟨hn1, hn2⟩ := renL_n b J l
  have hL : ∀ x, Sc L0 S0.n l.S.n x → x ≠ J → Sc L0 S0.n (renL b J l).S.n (renN b J x) := fun x hx _ => by
    unfold renN
    cases Nat.beq x b with
    | true => exact .inr ⟨h0, hn2⟩
    | false => exact Sc.mono hn1 x hx
  have hid : ∀ x, x ≠ J → (Γ.ren b J).id x = Γ.id x := fun x hx => if_neg hx
  have hsz : ∀ x, x ≠ J → (Γ.ren b J).sz x = Γ.sz x := fun x hx => if_neg hx
  have hg := renL_get hb hJ l
  have hgJ : (Γ.ren b J).id J = Γ.id b := if_pos rfl
  have hsJ : (Γ.ren b J).sz J = Γ.sz b := if_pos rfl
  -- what stands at a number
  have was : ∀ u, ¬ ((renL b J l).S.get u).Gone → (u = J ∧ ¬ (l.S.get b).Gone) ∨ (u ≠ J ∧ u ≠ b ∧ ¬ (l.S.get u).Gone) := fun u hu => by
    rw [hg] at hu
    by_cases h1 : u = J
    · rw [if_pos h1] at hu
      exact .inl ⟨h1, (Blk.ren_spec hr hL hgJ hsJ (h.S.rel b) (h.S.on b)).2.2 hu⟩
    · rw [if_neg h1] at hu
      by_cases h2 : u = b
      · rw [if_pos h2] at hu; exact absurd rfl hu
      · rw [if_neg h2] at hu
        exact .inr ⟨h1, h2, (Blk.ren_spec hr hL (hid u h1) (hsz u h1) (h.S.rel u) (h.S.on u)).2.2 hu⟩
  refine ⟨h.lt, ⟨h.fr.defers, h.fr.size, h.fr.lt, fun t => ?_, fun t => ?_⟩, ⟨fun j => ?_, fun j => ?_, fun j hj => ?_, fun i j hi hj hij => ?_⟩, h.fs,
    { ρ := h.far.ρ, n := Nat.le_trans h.far.n hn1, id := fun j hj => by rw [hid j (by omega)]; exact h.far.id j hj, sz := fun j hj => by rw [hsz j (by omega)]; exact h.far.sz j hj,
      os := h.far.os, tape := h.far.tape, output := h.far.output, size := h.far.size,
      keep := fun k hk hj => h.far.keep k hk fun j hjd => hj j (List.mem_cons_of_mem _ hjd)
      fresh := fun j hj hgn => ?_
      gone := fun j hj hgn => ?_ }⟩
  · show ((mapT (MV.ren b J) l.fr).get .unk t).rel _ _
    rw [mapT_get rfl]; exact (MV.ren_spec hr hL (h.fr.rel t) (h.fr.on t)).1
  · show ((mapT (MV.ren b J) l.fr).get .unk t).on _
    rw [mapT_get rfl]; exact (MV.ren_spec hr hL (h.fr.rel t) (h.fr.on t)).2
  · rw [hg]
    by_cases h1 : j = J
    · rw [if_pos h1, h1]; exact (Blk.ren_spec hr hL hgJ hsJ (h.S.rel b) (h.S.on b)).1
    · rw [if_neg h1]
      by_cases h2 : j = b
      · rw [if_pos h2]; trivial
      · rw [if_neg h2]; exact (Blk.ren_spec hr hL (hid j h1) (hsz j h1) (h.S.rel j) (h.S.on j)).1
  · rw [hg]
    by_cases h1 : j = J
    · rw [if_pos h1]; exact (Blk.ren_spec hr hL hgJ hsJ (h.S.rel b) (h.S.on b)).2.1
    · rw [if_neg h1]
      by_cases h2 : j = b
      · rw [if_pos h2]; trivial
      · rw [if_neg h2]; exact (Blk.ren_spec hr hL (hid j h1) (hsz j h1) (h.S.rel j) (h.S.on j)).2.1
  · rcases was j hj with ⟨rfl, _⟩ | ⟨_, _, h3⟩
    · exact .inr ⟨h0, hn2⟩
    · exact Sc.mono hn1 j (h.S.live j h3)
  · rcases was i hi with ⟨rfl, hbg⟩ | ⟨h1, h2, h3⟩
    · rcases was j hj with ⟨rfl, _⟩ | ⟨k1, k2, k3⟩
      · rfl
      · rw [hgJ, hid j k1] at hij
        exact absurd (h.S.inj b j hbg k3 hij).symm k2
    · rcases was j hj with ⟨rfl, hbg⟩ | ⟨k1, k2, k3⟩
      · rw [hgJ, hid i h1] at hij
        exact absurd (h.S.inj i b h3 hbg hij) h2
      · rw [hid i h1, hid j k1] at hij
        exact h.S.inj i j h3 k3 hij
  · rcases was j hgn with ⟨rfl, hbg⟩ | ⟨h1, h2, h3⟩
    · rw [hgJ]
      by_cases hb0 : b < S0.n
      · exact .inr ⟨b, List.mem_cons_self, hb0, h.far.gone b hb0 hbg, h.far.id b hb0⟩
      · exact (h.far.fresh b (by omega) hbg).imp (fun h => h) fun ⟨p, hp, hq⟩ => ⟨p, List.mem_cons_of_mem _ hp, hq⟩
    · rw [hid j h1]
      exact (h.far.fresh j hj h3).imp (fun h => h) fun ⟨p, hp, hq⟩ => ⟨p, List.mem_cons_of_mem _ hp, hq⟩
  · rcases was j hgn with ⟨rfl, _⟩ | ⟨_, _, h3⟩
    · omega
    · exact h.far.gone j hj h3

/-! ### A block of some numbers is a row -/
def Blk.toArr (ks : List IntKind) : Blk → Blk
  | .cells cs t (q + 1) =>
    (match kindsR ks 0 cs && Nat.beq (cs.length / (q + 1) * (q + 1)) cs.length with
     | true => (match updsG (.lit 0) (.bl false) 0 cs with | some y => .arr y ks (.lit 0) (mulN (.lit (cs.length / (q + 1) : Nat)) (q + 1)) t (q + 3) [] | none => .cells cs t (q + 1))
     | false => .cells cs t (q + 1))
  | b => b
theorem Blk.toArr_spec {Γ : Ctx} {w : World} {j : Nat} {L : Nat → Prop} (ks : List IntKind) {b : Blk} (hr : b.rel Γ w j) (ho : b.on L) : (b.toArr ks).rel Γ w j ∧ (b.toArr ks).on L ∧ (¬ (b.toArr ks).Gone → ¬ b.Gone) := by
  unfold Blk.toArr
  split
  · rename_i cs t q
    split
    · rename_i hk
      rw [Bool.and_eq_true] at hk
      have hlen := Nat.eq_of_beq_eq_true hk.2
      have hk := hk.1
      split
      · rename_i y hy
        obtain ⟨rest, r1, r2, r3⟩ := hr
        obtain ⟨_, u2⟩ := updsG_spec (Γ := Γ) (ks := ks) (o := .lit 0) (N := 0) rfl cs 0 (.bl false) y hy hk
        refine ⟨⟨(densOf Γ cs ++ rest).toArray, (0, 0), 0, cs.length, t, r1, rfl, by rw [mulN_I]; simp only [E.I]; rw [← Int.natCast_mul, hlen], ?_, fun i hi => ?_, fun i v hv => by simp [densOf] at hv, fun _ => ⟨rfl, rfl⟩, fun q' hq' => ⟨?_, rfl⟩⟩, fun m hm => absurd hm (by simp), fun _ => by simp [Blk.Gone]⟩
        · simp [densOf_length]
        · have := u2 i hi
          simp only [Nat.zero_add] at this
          rw [Nat.zero_add, List.getElem?_toArray, List.getElem?_append_left (by rw [densOf_length]; exact hi)]
          exact this
        · have hq2 : q' = q + 1 := by omega
          subst hq2
          have := r3 (by omega)
          simp only [List.size_toArray, List.length_append, densOf_length]
          exact this
      · exact ⟨hr, ho, fun h => h⟩
    · exact ⟨hr, ho, fun h => h⟩
  · exact ⟨hr, ho, fun h => h⟩
def arrL (J : Nat) (ks : List IntKind) (l : Leaf) : Leaf := { l with S := ⟨l.S.t.set .gone J ((l.S.get J).toArr ks), l.S.n⟩ }
theorem At.arr {L0 : Nat → Prop} {Γ0 Γ : Ctx} {S0 : St} {w0 w : World} {l : Leaf} {a : Act} (h : At L0 Γ0 S0 w0 Γ l a w) {J : Nat} (hJ : J < 4095) (ks : List IntKind) : At L0 Γ0 S0 w0 Γ (arrL J ks l) a w := by
  have hg : ∀ u, (arrL J ks l).S.get u = if u = J then (l.S.get J).toArr ks else l.S.get u := fun u => Tri.get_set _ _ _ _ hJ
  have hj := Blk.toArr_spec ks (h.S.rel J) (h.S.on J)
  have was : ∀ u, ¬ ((arrL J ks l).S.get u).Gone → ¬ (l.S.get u).Gone := fun u hu => by
    rw [hg] at hu
    by_cases h1 : u = J
    · rw [if_pos h1] at hu; rw [h1]; exact hj.2.2 hu
    · rwa [if_neg h1] at hu
  refine ⟨h.lt, h.fr, ⟨fun j => ?_, fun j => ?_, fun j hj => h.S.live j (was j hj), fun i j hi hj => h.S.inj i j (was i hi) (was j hj)⟩, h.fs,
    { ρ := h.far.ρ, n := h.far.n, id := h.far.id, sz := h.far.sz, os := h.far.os, tape := h.far.tape, output := h.far.output, size := h.far.size, keep := h.far.keep,
      fresh := fun j hj hgn => h.far.fresh j hj (was j hgn), gone := fun j hj hgn => h.far.gone j hj (was j hgn) }⟩
  · rw [hg]
    by_cases h1 : j = J
    · rw [if_pos h1, h1]; exact hj.1
    · rw [if_neg h1]; exact h.S.rel j
  · rw [hg]
    by_cases h1 : j = J
    · rw [if_pos h1]; exact hj.2.1
    · rw [if_neg h1]; exact h.S.on j

/-! ### Slots that are not told -/
def forgetFr : List Nat → Fr → Fr
  | [], f => f
  | t :: r, f => match Nat.blt t 4095 with | true => forgetFr r (f.set .unk t .unk) | false => forgetFr r f
theorem forgetFr_get : ∀ (l : List Nat) (f : Fr) (t : Nat), (forgetFr l f).get .unk t = .unk ∨ (forgetFr l f).get .unk t = f.get .unk t
  | [], _, _ => .inr rfl
  | u :: r, f, t => by
    unfold forgetFr
    split
    · rename_i hu
      rw [Nat.blt_eq] at hu
      rcases forgetFr_get r (f.set .unk u .unk) t with h | h
      · exact .inl h
      · rw [Tri.get_set _ _ _ _ hu] at h
        by_cases ht : t = u
        · rw [if_pos ht] at h; exact .inl h
        · rw [if_neg ht] at h; exact .inr h
    · exact forgetFr_get r f t
def forgetL (fg : List Nat) (l : Leaf) : Leaf := { l with fr := forgetFr fg l.fr }
theorem At.forget {L0 : Nat → Prop} {Γ0 Γ : Ctx} {S0 : St} {w0 w : World} {l : Leaf} {a : Act} (h : At L0 Γ0 S0 w0 Γ l a w) (fg : List Nat) : At L0 Γ0 S0 w0 Γ (forgetL fg l) a w :=
  ⟨h.lt, ⟨h.fr.defers, h.fr.size, h.fr.lt, fun t => by
      rcases forgetFr_get fg l.fr t with e | e
      · show ((forgetFr fg l.fr).get .unk t).rel _ _; rw [e]; trivial
      · show ((forgetFr fg l.fr).get .unk t).rel _ _; rw [e]; exact h.fr.rel t, fun t => by
      rcases forgetFr_get fg l.fr t with e | e
      · show ((forgetFr fg l.fr).get .unk t).on _; rw [e]; trivial
      · show ((forgetFr fg l.fr).get .unk t).on _; rw [e]; exact h.fr.on t⟩, h.S, h.fs, h.far⟩

/-! ### At a loop's head and behind a round: slices that grow go by numbers of their own -/
def renStart : List (Nat × Nat × List IntKind) → Leaf → Option Leaf
  | [], l => some l
  | p :: r, l =>
    match l.fr.get .unk p.1 with
    | .c (.slice b _ _ _) =>
      (match Nat.beq p.2.1 l.S.n && (Nat.blt p.2.1 4000 && Nat.blt b p.2.1) with
       | true => renStart r (arrL p.2.1 p.2.2 (renL b p.2.1 l))
       | false => none)
    | _ => none
theorem renStart_spec {L0 : Nat → Prop} {Γ0 : Ctx} {S0 : St} {w0 w : World} {a : Act} : ∀ {rn : List (Nat × Nat × List IntKind)} {l l' : Leaf} {Γ : Ctx}, renStart rn l = some l' → At L0 Γ0 S0 w0 Γ l a w →
    (∃ Γ', At L0 Γ0 S0 w0 Γ' l' a w) ∧ ∀ p ∈ rn, S0.n ≤ p.2.1 ∧ p.2.1 < 4000
  | [], l, l', Γ, h, hat => by
    simp only [renStart, Option.some.injEq] at h
    subst h
    exact ⟨⟨Γ, hat⟩, fun p hp => absurd hp (by simp)⟩
  | p :: r, l, l', Γ, h, hat => by
    unfold renStart at h
    split at h
    · rename_i b _ _ _ _
      split at h
      · rename_i hc
        simp only [Bool.and_eq_true, Nat.blt_eq] at hc
        obtain ⟨c1, c2, c3⟩ := hc
        have c1 := Nat.eq_of_beq_eq_true c1
        have hn := hat.far.n
        obtain ⟨h1, h2⟩ := renStart_spec h ((hat.ren (b := b) (J := p.2.1) (by omega) (by omega) (by omega) (by omega)).arr (by omega) p.2.2)
        refine ⟨h1, fun q hq => ?_⟩
        rcases List.mem_cons.1 hq with rfl | hq
        · exact ⟨by omega, c2⟩
        · exact h2 q hq
      · cases h
    · cases h
theorem renStart_fs : ∀ {rn : List (Nat × Nat × List IntKind)} {l l' : Leaf}, renStart rn l = some l' → l'.fs = l.fs
  | [], l, l', h => by simp only [renStart, Option.some.injEq] at h; subst h; rfl
  | p :: r, l, l', h => by
    unfold renStart at h
    split at h
    · split at h
      · have e := renStart_fs h
        exact e
      · cases h
    · cases h
def renEnd : List (Nat × Nat × List IntKind) → Leaf → Leaf
  | [], l => l
  | p :: r, l =>
    match l.fr.get .unk p.1 with
    | .c (.slice b _ _ _) => (match !(Nat.beq b p.2.1) && Nat.blt b 4000 with | true => renEnd r (arrL p.2.1 p.2.2 (renL b p.2.1 l)) | false => renEnd r l)
    | _ => renEnd r l
theorem renEnd_spec {L0 : Nat → Prop} {Γ0 : Ctx} {S0 : St} {w0 w : World} {a : Act} : ∀ {rn : List (Nat × Nat × List IntKind)} {l : Leaf} {Γ : Ctx}, (∀ p ∈ rn, S0.n ≤ p.2.1 ∧ p.2.1 < 4000) → At L0 Γ0 S0 w0 Γ l a w →
    ∃ Γ', At L0 Γ0 S0 w0 Γ' (renEnd rn l) a w
  | [], l, Γ, _, hat => ⟨Γ, hat⟩
  | p :: r, l, Γ, h, hat => by
    have hp := h p (by simp)
    have hr : ∀ q ∈ r, S0.n ≤ q.2.1 ∧ q.2.1 < 4000 := fun q hq => h q (by simp [hq])
    unfold renEnd
    split
    · split
      · rename_i hc
        simp only [Bool.and_eq_true, Nat.blt_eq, Bool.not_eq_true'] at hc
        exact renEnd_spec hr ((hat.ren (by omega) (by omega) (beq_no hc.1) hp.1).arr (by omega) _)
      · exact renEnd_spec hr hat
    · exact renEnd_spec hr hat
theorem renEnd_ex : ∀ {rn : List (Nat × Nat × List IntKind)} {l : Leaf}, (renEnd rn l).ex = l.ex
  | [], _ => rfl
  | p :: r, l => by
    unfold renEnd
    split
    · split
      · rw [renEnd_ex]; rfl
      · exact renEnd_ex
    · exact renEnd_ex
end Sx
end Go.Proofs.Ytigblagodlfedaa
