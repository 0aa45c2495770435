/- Loops that are known by what they come to: what holds at the head is told by hand; one round is run. -/
import Derived.Test.YtdkdoopimfchbaaSxz
namespace Go.Proofs.Ytdkdoopimfchbaa
namespace Sx
open Go.RowKit

/-! ### Symbols below a number: those that a loop does not turn -/
/-- Which symbols are meant: those below a number, and some more. -/
structure Keys where
  M : Nat
  i : List Nat := []
  b : List Nat := []
  a : List Nat := []
def Keys.has (M : Nat) (l : List Nat) (j : Nat) : Bool := match Nat.blt j M with | true => true | false => elemN j l
def E.under (M : Keys) : E → Bool
  | .lit _ => true
  | .bl _ => true
  | .var i => Keys.has M.M M.i i
  | .bv i => Keys.has M.M M.b i
  | .av i => Keys.has M.M M.a i
  | .un _ a => a.under M
  | .bin _ a b => a.under M && b.under M
  | .ite c a b => c.under M && (a.under M && b.under M)
  | .upd x o v => x.under M && (o.under M && v.under M)
  | .sq _ _ => true
structure SameB (M : Keys) (v ρ : Val) : Prop where
  i : ∀ j, Keys.has M.M M.i j = true → v.i j = ρ.i j
  b : ∀ j, Keys.has M.M M.b j = true → v.b j = ρ.b j
  a : ∀ j, Keys.has M.M M.a j = true → v.a j = ρ.a j
  s : v.s = ρ.s
theorem SameB.symm {M : Keys} {v ρ : Val} (h : SameB M v ρ) : SameB M ρ v := ⟨fun j hj => (h.i j hj).symm, fun j hj => (h.b j hj).symm, fun j hj => (h.a j hj).symm, h.s.symm⟩
theorem SameB.trans {M : Keys} {v ρ τ : Val} (h : SameB M v ρ) (k : SameB M ρ τ) : SameB M v τ := ⟨fun j hj => (h.i j hj).trans (k.i j hj), fun j hj => (h.b j hj).trans (k.b j hj), fun j hj => (h.a j hj).trans (k.a j hj), h.s.trans k.s⟩
theorem below_eq {M : Keys} {v ρ : Val} (h : SameB M v ρ) : ∀ e : E, e.under M = true → e.I v = e.I ρ ∧ e.T v = e.T ρ ∧ e.A v = e.A ρ := by
  intro e
  induction e with
  | lit n => intro _; exact ⟨rfl, rfl, rfl⟩
  | bl b => intro _; exact ⟨rfl, rfl, rfl⟩
  | var i => intro hb; simp only [E.under] at hb; exact ⟨h.i i hb, rfl, rfl⟩
  | bv i => intro hb; simp only [E.under] at hb; exact ⟨rfl, h.b i hb, rfl⟩
  | av i => intro hb; simp only [E.under] at hb; exact ⟨rfl, rfl, h.a i hb⟩
  | un o a ih =>
    intro hb
    obtain ⟨h1, h2, h3⟩ := ih hb
    cases o <;> simp only [E.I, E.T, E.A, h1, h2, and_self]
  | bin o a b iha ihb =>
    intro hb
    simp only [E.under, Bool.and_eq_true] at hb
    obtain ⟨h1, h2, h3⟩ := iha hb.1
    obtain ⟨h4, h5, h6⟩ := ihb hb.2
    cases o <;> simp only [E.I, E.T, E.A, h1, h2, h3, h4, h5, and_self]
  | ite c a b ihc iha ihb =>
    intro hb
    simp only [E.under, Bool.and_eq_true] at hb
    obtain ⟨h1, h2, h3⟩ := ihc hb.1
    obtain ⟨h4, h5, h6⟩ := iha hb.2.1
    obtain ⟨h7, h8, h9⟩ := ihb hb.2.2
    simp only [E.I, E.T, E.A, h2, h4, h5, h6, h7, h8, h9, and_self]
  | upd x o v ihx iho ihv =>
    intro hb
    simp only [E.under, Bool.and_eq_true] at hb
    obtain ⟨h1, h2, h3⟩ := ihx hb.1
    obtain ⟨h4, h5, h6⟩ := iho hb.2.1
    obtain ⟨h7, h8, h9⟩ := ihv hb.2.2
    simp only [E.I, E.T, E.A, h3, h4, h7, and_self]
  | sq i s => intro _; simp only [E.I, E.T, E.A, h.s, and_self]
def Cap.below (M : Keys) : Cap → Bool
  | .ex e => e.under M | .opn _ => true
def capsLt (n : Nat) : List (Nat × Nat) → Bool
  | [] => true
  | p :: l => Nat.blt p.1 n && capsLt n l
/-- Nothing that a loop turns, and blocks below a number alone. -/
def MC.below (M : Keys) (n : Nat) : MC → Bool
  | .int _ e => e.under M
  | .bool e => e.under M
  | .ptr b o => Nat.blt b n && o.under M
  | .slice b o l c => Nat.blt b n && (o.under M && (l.under M && c.below M))
  | .fn _ caps => capsLt n caps
  | _ => true
def csBelow (M : Keys) (n : Nat) : List MC → Bool
  | [] => true
  | m :: l => m.below M n && csBelow M n l
def MV.below (M : Keys) (n : Nat) : MV → Bool
  | .unk => true
  | .und => true
  | .c m => m.below M n
  | .agg l => csBelow M n l
  | .tup _ => false
def Blk.below (M : Keys) (n : Nat) : Blk → Bool
  | .gone => true
  | .cells cs _ _ => csBelow M n cs
  | .arr x _ lo m _ _ tl => x.under M && (lo.under M && (m.under M && csBelow M n tl))
/-- Blocks below a number alone. -/
def MC.lt (n : Nat) : MC → Bool
  | .ptr b _ => Nat.blt b n
  | .slice b _ _ _ => Nat.blt b n
  | .fn _ caps => capsLt n caps
  | _ => true
def csLt (n : Nat) : List MC → Bool
  | [] => true
  | m :: l => m.lt n && csLt n l
def MV.lt (n : Nat) : MV → Bool
  | .c m => m.lt n
  | .agg l => csLt n l
  | .tup _ => false
  | _ => true
def Blk.lt (n : Nat) : Blk → Bool
  | .gone => true
  | .cells cs _ _ => csLt n cs
  | .arr _ _ _ _ _ _ tl => csLt n tl
theorem MC.lt_of_below {M : Keys} {n : Nat} {m : MC} (h : m.below M n = true) : m.lt n = true := by
  cases m <;> simp only [MC.below, MC.lt, Bool.and_eq_true] at h ⊢
  · exact h.1
  · exact h.1
  · exact h
theorem csLt_of_below {M : Keys} {n : Nat} : ∀ {l : List MC}, csBelow M n l = true → csLt n l = true
  | [], _ => rfl
  | m :: l, h => by simp only [csBelow, csLt, Bool.and_eq_true] at h ⊢; exact ⟨MC.lt_of_below h.1, csLt_of_below h.2⟩
theorem MV.lt_of_below {M : Keys} {n : Nat} {m : MV} (h : m.below M n = true) : m.lt n = true := by
  cases m with
  | unk => rfl
  | und => rfl
  | c m => exact MC.lt_of_below h
  | agg l => exact csLt_of_below h
  | tup l => simp [MV.below] at h
theorem Blk.lt_of_below {M : Keys} {n : Nat} {b : Blk} (h : b.below M n = true) : b.lt n = true := by
  cases b with
  | gone => rfl
  | cells cs t q => exact csLt_of_below h
  | arr x ks lo m t w tl => simp only [Blk.below, Bool.and_eq_true] at h; exact csLt_of_below h.2.2.2
theorem capsLt_mem {n : Nat} : ∀ {l : List (Nat × Nat)}, capsLt n l = true → ∀ p ∈ l, p.1 < n
  | [], _, p, hp => by simp at hp
  | q :: l, h, p, hp => by
    simp only [capsLt, Bool.and_eq_true, Nat.blt_eq] at h
    rcases List.mem_cons.1 hp with rfl | hp
    · exact h.1
    · exact capsLt_mem h.2 p hp
theorem MC.on_lt {n : Nat} {L L' : Nat → Prop} (hl : ∀ j, j < n → L j → L' j) {m : MC} (h : m.lt n = true) (ho : m.on L) : m.on L' := by
  cases m <;> simp only [MC.lt, MC.on, Nat.blt_eq] at h ho ⊢
  · exact hl _ h ho
  · exact hl _ h ho
  · exact fun p hp => hl _ (capsLt_mem h p hp) (ho p hp)
theorem csOn_lt {n : Nat} {L L' : Nat → Prop} (hl : ∀ j, j < n → L j → L' j) : ∀ {l : List MC}, csLt n l = true → csOn L l → csOn L' l
  | [], _, _ => fun m hm => absurd hm (by simp)
  | m :: l, h, ho => by
    simp only [csLt, Bool.and_eq_true] at h
    intro x hx
    rcases List.mem_cons.1 hx with rfl | hx
    · exact MC.on_lt hl h.1 (ho _ (by simp))
    · exact csOn_lt hl h.2 (fun y hy => ho y (by simp [hy])) x hx
theorem MV.on_lt {n : Nat} {L L' : Nat → Prop} (hl : ∀ j, j < n → L j → L' j) {m : MV} (h : m.lt n = true) (ho : m.on L) : m.on L' := by
  cases m with
  | unk => trivial
  | und => trivial
  | c m => exact MC.on_lt hl h ho
  | agg l => exact csOn_lt hl h ho
  | tup l => simp [MV.lt] at h
theorem Blk.on_lt {n : Nat} {L L' : Nat → Prop} (hl : ∀ j, j < n → L j → L' j) {b : Blk} (h : b.lt n = true) (ho : b.on L) : b.on L' := by
  cases b with
  | gone => trivial
  | cells cs t q => exact csOn_lt hl h ho
  | arr x ks lo m t w tl => exact csOn_lt hl h ho
/-- The same reading of blocks, under other symbols. -/
def Ctx.at_ (Γ : Ctx) (v : Val) : Ctx := ⟨v, Γ.id, Γ.sz⟩
theorem Ctx.at_self (Γ : Ctx) : Γ.at_ Γ.ρ = Γ := rfl
theorem MC.below_den {M : Keys} {n : Nat} {v ρ : Val} (h : SameB M v ρ) {m : MC} (hb : m.below M n = true) (Γ : Ctx) : m.den (Γ.at_ v) = m.den (Γ.at_ ρ) := by
  cases m with
  | int k e => simp only [MC.den, Ctx.at_, (below_eq h e hb).1]
  | bool e => simp only [MC.den, Ctx.at_, (below_eq h e hb).2.1]
  | ptr b o => simp only [MC.below, Bool.and_eq_true] at hb; simp only [MC.den, Ctx.at_, (below_eq h o hb.2).1]
  | slice b o l c =>
    simp only [MC.below, Bool.and_eq_true] at hb
    have hc : c.den (Γ.at_ v) b = c.den (Γ.at_ ρ) b := by
      cases c with
      | ex e => simp only [Cap.den, Ctx.at_, (below_eq h e hb.2.2.2).1]
      | opn q => rfl
    simp only [MC.den, hc]
    simp only [Ctx.at_, (below_eq h o hb.2.1).1, (below_eq h l hb.2.2.1).1]
  | sv i => simp only [MC.den, Ctx.at_, h.s]
  | str s => rfl
  | nilp => rfl
  | nils => rfl
  | fn f c => rfl
  | nilf => rfl
theorem cs_below_den {M : Keys} {n : Nat} {v ρ : Val} (h : SameB M v ρ) (Γ : Ctx) : ∀ {l : List MC}, csBelow M n l = true → densOf (Γ.at_ v) l = densOf (Γ.at_ ρ) l
  | [], _ => rfl
  | m :: l, hb => by
    simp only [csBelow, Bool.and_eq_true] at hb
    have ih := cs_below_den h Γ hb.2
    simp only [densOf, List.map_cons] at ih ⊢
    rw [MC.below_den h hb.1, ih]
theorem MV.below_rel {M : Keys} {n : Nat} {v ρ : Val} (h : SameB M v ρ) {m : MV} (hb : m.below M n = true) (Γ : Ctx) {x : Value} (hr : m.rel (Γ.at_ ρ) x) : m.rel (Γ.at_ v) x := by
  cases m with
  | unk => trivial
  | und => exact hr
  | c m => rw [MV.rel_c hr, ← MC.below_den h hb Γ]; rfl
  | agg l => rw [MV.rel_agg hr, ← cs_below_den h Γ hb]; rfl
  | tup l => simp [MV.below] at hb
theorem Blk.below_rel {M : Keys} {n : Nat} {v ρ : Val} (h : SameB M v ρ) {b : Blk} (hb : b.below M n = true) (Γ : Ctx) {w : World} {j : Nat} (hr : b.rel (Γ.at_ ρ) w j) : b.rel (Γ.at_ v) w j := by
  cases b with
  | gone => trivial
  | cells cs t q =>
    obtain ⟨rest, h1, h2, h3⟩ := hr
    exact ⟨rest, by rw [cs_below_den h Γ hb]; exact h1, h2, h3⟩
  | arr x ks lo m t w tl =>
    simp only [Blk.below, Bool.and_eq_true] at hb
    obtain ⟨cs, fr, a, k, tt, h1, h2, h3, h4, h5, h6, h7⟩ := hr
    refine ⟨cs, fr, a, k, tt, h1, ?_, ?_, h4, ?_, ?_, h7⟩
    · show (a : Int) = lo.I v; rw [(below_eq h lo hb.2.1).1]; exact h2
    · show (k : Int) = m.I v; rw [(below_eq h m hb.2.2.1).1]; exact h3
    · show ∀ i, i < k → cs[a + i]? = some (.int (ks.getD (i % ks.length) .u8) (x.A v i)); rw [(below_eq h x hb.1).2.2]; exact h5
    · rw [cs_below_den h Γ hb.2.2.2]; exact h6

/-! ### Symbols for symbols -/
structure Sub where
  i : List (Nat × E) := []
  b : List (Nat × E) := []
  a : List (Nat × E) := []
def pick (j : Nat) (d : E) (l : List (Nat × E)) : E := match lookup j l with | some e => e | none => d
def E.sub (σ : Sub) : E → E
  | .lit n => .lit n
  | .bl b => .bl b
  | .var i => pick i (.var i) σ.i
  | .bv i => pick i (.bv i) σ.b
  | .av i => pick i (.av i) σ.a
  | .un o a => .un o (a.sub σ)
  | .bin o a b => .bin o (a.sub σ) (b.sub σ)
  | .ite c a b => .ite (c.sub σ) (a.sub σ) (b.sub σ)
  | .upd x o v => .upd (x.sub σ) (o.sub σ) (v.sub σ)
  | .sq i s => .sq i s
def Val.upd (ρ : Val) (σ : Sub) : Val := ⟨fun j => (pick j (.var j) σ.i).I ρ, fun j => (pick j (.bv j) σ.b).T ρ, fun j => (pick j (.av j) σ.a).A ρ, ρ.s⟩
/-- What an expression is: a number, a truth, an array; nothing else besides. -/
def E.isI : E → Bool
  | .lit _ => true
  | .var _ => true
  | .un (.wrap _) _ => true
  | .un (.fi _) _ => true
  | .bin .add _ _ => true | .bin .sub _ _ => true | .bin .mul _ _ => true | .bin .div _ _ => true | .bin .mod _ _ => true | .bin .quo _ _ => true | .bin .rem _ _ => true
  | .bin (.bits _ _) _ _ => true | .bin (.gi _) _ _ => true | .bin .rd _ _ => true
  | .ite _ a b => a.isI && b.isI
  | _ => false
def E.isB : E → Bool
  | .bl _ => true
  | .bv _ => true
  | .un .not _ => true
  | .un (.fb _) _ => true
  | .bin .eq _ _ => true | .bin .lt _ _ => true | .bin .le _ _ => true | .bin .and _ _ => true | .bin .or _ _ => true | .bin (.gb _) _ _ => true
  | .ite _ a b => a.isB && b.isB
  | .sq _ _ => true
  | _ => false
def E.isA : E → Bool
  | .av _ => true
  | .upd _ _ _ => true
  | .ite _ a b => a.isA && b.isA
  | _ => false
theorem isI_spec (ρ : Val) : ∀ e : E, e.isI = true → e.T ρ = false ∧ e.A ρ = fun _ => 0 := by
  intro e
  induction e with
  | ite c a b _ iha ihb =>
    intro h
    simp only [E.isI, Bool.and_eq_true] at h
    obtain ⟨h1, h2⟩ := iha h.1
    obtain ⟨h3, h4⟩ := ihb h.2
    simp only [E.T, E.A, h1, h2, h3, h4, ite_self, and_self]
  | un o a _ => intro h; cases o <;> simp [E.isI] at h <;> simp [E.T, E.A]
  | bin o a b _ _ => intro h; cases o <;> simp [E.isI] at h <;> simp [E.T, E.A]
  | lit n => intro _; simp [E.T, E.A]
  | var n => intro _; simp [E.T, E.A]
  | _ => intro h; simp [E.isI] at h
theorem isB_spec (ρ : Val) : ∀ e : E, e.isB = true → e.I ρ = 0 ∧ e.A ρ = fun _ => 0 := by
  intro e
  induction e with
  | ite c a b _ iha ihb =>
    intro h
    simp only [E.isB, Bool.and_eq_true] at h
    obtain ⟨h1, h2⟩ := iha h.1
    obtain ⟨h3, h4⟩ := ihb h.2
    simp only [E.I, E.A, h1, h2, h3, h4, ite_self, and_self]
  | un o a _ => intro h; cases o <;> simp [E.isB] at h <;> simp [E.I, E.A]
  | bin o a b _ _ => intro h; cases o <;> simp [E.isB] at h <;> simp [E.I, E.A]
  | bl n => intro _; simp [E.I, E.A]
  | bv n => intro _; simp [E.I, E.A]
  | sq i s => intro _; simp [E.I, E.A]
  | _ => intro h; simp [E.isB] at h
theorem isA_spec (ρ : Val) : ∀ e : E, e.isA = true → e.I ρ = 0 ∧ e.T ρ = false := by
  intro e
  induction e with
  | ite c a b _ iha ihb =>
    intro h
    simp only [E.isA, Bool.and_eq_true] at h
    obtain ⟨h1, h2⟩ := iha h.1
    obtain ⟨h3, h4⟩ := ihb h.2
    simp only [E.I, E.T, h1, h2, h3, h4, ite_self, and_self]
  | av n => intro _; simp [E.I, E.T]
  | upd x o v _ _ _ => intro _; simp [E.I, E.T]
  | _ => intro h; simp [E.isA] at h
def allE (p : E → Bool) : List (Nat × E) → Bool
  | [] => true
  | q :: l => p q.2 && allE p l
def Sub.ok (σ : Sub) : Bool := allE E.isI σ.i && (allE E.isB σ.b && allE E.isA σ.a)
theorem pick_of {p : E → Bool} {j : Nat} {d : E} (hd : p d = true) : ∀ {l : List (Nat × E)}, allE p l = true → p (pick j d l) = true
  | [], _ => hd
  | q :: l, h => by
    simp only [allE, Bool.and_eq_true] at h
    unfold pick lookup
    by_cases hq : Nat.beq q.1 j = true
    · rw [if_pos hq]; exact h.1
    · rw [if_neg hq]; exact pick_of hd h.2
theorem sub_eq {σ : Sub} (hσ : σ.ok = true) (ρ : Val) : ∀ e : E, (e.sub σ).I ρ = e.I (ρ.upd σ) ∧ (e.sub σ).T ρ = e.T (ρ.upd σ) ∧ (e.sub σ).A ρ = e.A (ρ.upd σ) := by
  simp only [Sub.ok, Bool.and_eq_true] at hσ
  intro e
  induction e with
  | lit n => exact ⟨rfl, rfl, rfl⟩
  | bl b => exact ⟨rfl, rfl, rfl⟩
  | var i =>
    obtain ⟨h1, h2⟩ := isI_spec ρ _ (pick_of (j := i) (d := .var i) rfl hσ.1)
    exact ⟨rfl, h1, h2⟩
  | bv i =>
    obtain ⟨h1, h2⟩ := isB_spec ρ _ (pick_of (j := i) (d := .bv i) rfl hσ.2.1)
    exact ⟨h1, rfl, h2⟩
  | av i =>
    obtain ⟨h1, h2⟩ := isA_spec ρ _ (pick_of (j := i) (d := .av i) rfl hσ.2.2)
    exact ⟨h1, h2, rfl⟩
  | un o a ih =>
    obtain ⟨h1, h2, h3⟩ := ih
    cases o <;> simp only [E.sub, E.I, E.T, E.A, h1, h2, and_self]
  | bin o a b iha ihb =>
    obtain ⟨h1, h2, h3⟩ := iha
    obtain ⟨h4, h5, h6⟩ := ihb
    cases o <;> simp only [E.sub, E.I, E.T, E.A, h1, h2, h3, h4, h5, and_self]
  | ite c a b ihc iha ihb =>
    obtain ⟨h1, h2, h3⟩ := ihc
    obtain ⟨h4, h5, h6⟩ := iha
    obtain ⟨h7, h8, h9⟩ := ihb
    simp only [E.sub, E.I, E.T, E.A, h2, h4, h5, h6, h7, h8, h9, and_self]
  | upd x o v ihx iho ihv =>
    obtain ⟨h1, h2, h3⟩ := ihx
    obtain ⟨h4, h5, h6⟩ := iho
    obtain ⟨h7, h8, h9⟩ := ihv
    simp only [E.sub, E.I, E.T, E.A, h3, h4, h7, and_self]
  | sq i s => exact ⟨rfl, rfl, rfl⟩
def Cap.sub (σ : Sub) : Cap → Cap
  | .ex e => .ex (e.sub σ) | .opn m => .opn m
def MC.sub (σ : Sub) : MC → MC
  | .int k e => .int k (e.sub σ)
  | .bool e => .bool (e.sub σ)
  | .ptr b o => .ptr b (o.sub σ)
  | .slice b o l c => .slice b (o.sub σ) (l.sub σ) (c.sub σ)
  | m => m
def csSub (σ : Sub) : List MC → List MC
  | [] => []
  | m :: l => m.sub σ :: csSub σ l
def MV.sub (σ : Sub) : MV → MV
  | .c m => .c (m.sub σ)
  | .agg l => .agg (csSub σ l)
  | m => m
def Blk.sub (σ : Sub) : Blk → Blk
  | .cells cs t q => .cells (csSub σ cs) t q
  | .arr x ks lo m t w tl => .arr (x.sub σ) ks (lo.sub σ) (m.sub σ) t w (csSub σ tl)
  | .gone => .gone
theorem MC.sub_den {σ : Sub} (hσ : σ.ok = true) (Γ : Ctx) (ρ : Val) (m : MC) : (m.sub σ).den (Γ.at_ ρ) = m.den (Γ.at_ (ρ.upd σ)) := by
  have h := sub_eq hσ ρ
  cases m with
  | int k e => simp only [MC.sub, MC.den, Ctx.at_, (h e).1]
  | bool e => simp only [MC.sub, MC.den, Ctx.at_, (h e).2.1]
  | ptr b o => simp only [MC.sub, MC.den, Ctx.at_, (h o).1]
  | slice b o l c =>
    have hc : (c.sub σ).den (Γ.at_ ρ) b = c.den (Γ.at_ (ρ.upd σ)) b := by
      cases c with
      | ex e => simp only [Cap.sub, Cap.den, Ctx.at_, (h e).1]
      | opn q => rfl
    simp only [MC.sub, MC.den, hc]
    simp only [Ctx.at_, (h o).1, (h l).1]
  | sv i => rfl
  | str s => rfl
  | nilp => rfl
  | nils => rfl
  | fn f c => rfl
  | nilf => rfl
theorem cs_sub_den {σ : Sub} (hσ : σ.ok = true) (Γ : Ctx) (ρ : Val) : ∀ l : List MC, densOf (Γ.at_ ρ) (csSub σ l) = densOf (Γ.at_ (ρ.upd σ)) l
  | [] => rfl
  | m :: l => by
    have ih := cs_sub_den hσ Γ ρ l
    simp only [densOf, csSub, List.map_cons] at ih ⊢
    rw [MC.sub_den hσ, ih]
theorem csSub_length (σ : Sub) : ∀ l : List MC, (csSub σ l).length = l.length
  | [] => rfl
  | m :: l => by simp [csSub, csSub_length σ l]
theorem MV.sub_rel {σ : Sub} (hσ : σ.ok = true) (Γ : Ctx) (ρ : Val) {m : MV} (hm : m.lt 0 = true ∨ ∀ l, m ≠ .tup l) {x : Value} : (m.sub σ).rel (Γ.at_ ρ) x ↔ m.rel (Γ.at_ (ρ.upd σ)) x := by
  cases m with
  | unk => exact Iff.rfl
  | und => exact Iff.rfl
  | c m => simp only [MV.sub, MV.rel, MV.den, MC.sub_den hσ]
  | agg l => simp only [MV.sub, MV.rel, MV.den, cs_sub_den hσ]
  | tup l =>
    rcases hm with h | h
    · simp [MV.lt] at h
    · exact absurd rfl (h l)
theorem Blk.sub_rel {σ : Sub} (hσ : σ.ok = true) (Γ : Ctx) (ρ : Val) {b : Blk} {w : World} {j : Nat} : (b.sub σ).rel (Γ.at_ ρ) w j ↔ b.rel (Γ.at_ (ρ.upd σ)) w j := by
  cases b with
  | gone => exact Iff.rfl
  | cells cs t q => simp only [Blk.sub, Blk.rel, cs_sub_den hσ, csSub_length]; exact Iff.rfl
  | arr x ks lo m t w' tl =>
    have h := sub_eq hσ ρ
    simp only [Blk.sub, Blk.rel, cs_sub_den hσ, csSub_length]
    show (∃ (cs : Array Value) (fr : Nat × Nat) (a k _ : Nat), _ ∧ (a : Int) = (lo.sub σ).I ρ ∧ (k : Int) = (m.sub σ).I ρ ∧ _ ∧ (∀ i : Nat, i < k → cs[a + i]? = some (Value.int (ks.getD (i % ks.length) .u8) ((x.sub σ).A ρ i))) ∧ _) ↔ _
    rw [(h lo).1, (h m).1, (h x).2.2]
    exact Iff.rfl
theorem MC.sub_on {σ : Sub} {L : Nat → Prop} {m : MC} : (m.sub σ).on L ↔ m.on L := by cases m <;> exact Iff.rfl
theorem cs_sub_on {σ : Sub} {L : Nat → Prop} : ∀ {l : List MC}, csOn L (csSub σ l) ↔ csOn L l
  | [] => Iff.rfl
  | m :: l => by
    constructor
    · intro h x hx
      rcases List.mem_cons.1 hx with rfl | hx
      · exact (MC.sub_on (σ := σ)).1 (h _ (by simp [csSub]))
      · exact cs_sub_on.1 (fun y hy => h y (by simp only [csSub]; exact List.mem_cons.2 (.inr hy))) x hx
    · intro h x hx
      simp only [csSub] at hx
      rcases List.mem_cons.1 hx with rfl | hx
      · exact MC.sub_on.2 (h _ (by simp))
      · exact cs_sub_on.2 (fun y hy => h y (by simp [hy])) x hx
theorem MV.sub_on {σ : Sub} {L : Nat → Prop} {m : MV} : (m.sub σ).on L ↔ m.on L := by
  cases m with
  | c m => exact MC.sub_on
  | agg l => exact cs_sub_on
  | unk => exact Iff.rfl
  | und => exact Iff.rfl
  | tup l => exact Iff.rfl
theorem Blk.sub_on {σ : Sub} {L : Nat → Prop} {b : Blk} : (b.sub σ).on L ↔ b.on L := by
  cases b with
  | gone => exact Iff.rfl
  | cells cs t q => exact cs_sub_on
  | arr x ks lo m t w tl => exact cs_sub_on

/-! ### A leaf under other symbols -/
/-- What is known of a value ahead and behind: not more, and nothing else. -/
structure MoveV (ρ v : Val) (n : Nat) (m m' : MV) : Prop where
  rel : ∀ Γ x, m.rel (Ctx.at_ Γ ρ) x → m'.rel (Ctx.at_ Γ v) x
  lt : m'.lt n = true
  on : ∀ L : Nat → Prop, m.on L → m'.on L
structure MoveB (ρ v : Val) (n : Nat) (b b' : Blk) : Prop where
  rel : ∀ Γ w j, b.rel (Ctx.at_ Γ ρ) w j → b'.rel (Ctx.at_ Γ v) w j
  lt : b'.lt n = true
  on : ∀ L : Nat → Prop, b.on L → b'.on L
  gone : ¬ b'.Gone → ¬ b.Gone
theorem MoveV.unk (ρ v : Val) (n : Nat) (m : MV) : MoveV ρ v n m .unk := ⟨fun _ _ _ => trivial, rfl, fun _ _ => trivial⟩
theorem MoveB.gone_ (ρ v : Val) (n : Nat) (b : Blk) : MoveB ρ v n b .gone := ⟨fun _ _ _ _ => trivial, rfl, fun _ _ => trivial, fun h => absurd rfl h⟩
theorem MoveV.keep {M : Keys} {n : Nat} {v ρ : Val} (h : SameB M v ρ) {m : MV} (hb : m.below M n = true) : MoveV ρ v n m m := ⟨fun Γ _ hr => MV.below_rel h hb Γ hr, MV.lt_of_below hb, fun _ h => h⟩
theorem MoveB.keep {M : Keys} {n : Nat} {v ρ : Val} (h : SameB M v ρ) {b : Blk} (hb : b.below M n = true) : MoveB ρ v n b b := ⟨fun Γ _ _ hr => Blk.below_rel h hb Γ hr, Blk.lt_of_below hb, fun _ h => h, fun h => h⟩
theorem MV.not_tup {n : Nat} {m : MV} (h : m.lt n = true) : ∀ l, m ≠ .tup l := fun l e => by subst e; simp [MV.lt] at h
theorem MoveV.sub {σ : Sub} (hσ : σ.ok = true) {ρ : Val} {n : Nat} {m : MV} (hl : m.lt n = true) : MoveV ρ (ρ.upd σ) n (m.sub σ) m :=
  ⟨fun Γ _ hr => (MV.sub_rel hσ Γ ρ (.inr (MV.not_tup hl))).1 hr, hl, fun _ h => MV.sub_on.1 h⟩
theorem MoveB.sub {σ : Sub} (hσ : σ.ok = true) {ρ : Val} {n : Nat} {b : Blk} (hl : b.lt n = true) : MoveB ρ (ρ.upd σ) n (b.sub σ) b :=
  ⟨fun Γ _ _ hr => (Blk.sub_rel hσ Γ ρ).1 hr, hl, fun _ h => Blk.sub_on.1 h, fun h hg => h (by cases b <;> simp [Blk.sub, Blk.Gone] at hg ⊢)⟩
theorem At.move {L0 : Nat → Prop} {Γ0 Γ : Ctx} {S0 : St} {w0 w : World} {l l' : Leaf} {a : Act} (h : At L0 Γ0 S0 w0 Γ l a w) {v : Val}
    (hn0 : S0.n ≤ l'.S.n) (hN : l'.N = l.N) (hfr : ∀ t, MoveV Γ.ρ v l'.S.n (l.fr.get .unk t) (l'.fr.get .unk t)) (hS : ∀ j, MoveB Γ.ρ v l'.S.n (l.S.get j) (l'.S.get j)) (hlive : ∀ j, ¬ (l'.S.get j).Gone → j < l'.S.n)
    (hfs : l'.fs.hold v) (hd : ∀ j ∈ l.d, j < l'.S.n → j ∈ l'.d) : At L0 (Γ0.at_ v) S0 w0 (Γ.at_ v) l' a w := by
  have hsc : ∀ j, j < l'.S.n → Sc L0 S0.n l.S.n j → Sc L0 S0.n l'.S.n j := fun j hj hs => hs.imp id fun h => ⟨h.1, hj⟩
  refine ⟨h.lt, ⟨h.fr.defers, by rw [hN]; exact h.fr.size, by rw [hN]; exact h.fr.lt, fun t => (hfr t).rel Γ _ (h.fr.rel t), fun t => MV.on_lt hsc (hfr t).lt ((hfr t).on _ (h.fr.on t))⟩,
    ⟨fun j => (hS j).rel Γ w j (h.S.rel j), fun j => Blk.on_lt hsc (hS j).lt ((hS j).on _ (h.S.on j)), fun j hj => hsc j (hlive j hj) (h.S.live j ((hS j).gone hj)), fun i j hi hj hij => h.S.inj i j ((hS i).gone hi) ((hS j).gone hj) hij⟩, hfs,
    { ρ := rfl, n := hn0, id := h.far.id, sz := h.far.sz, os := h.far.os, tape := h.far.tape, output := h.far.output, size := h.far.size,
      keep := fun k hk hj => h.far.keep k hk fun j hjd hj0 => hj j (hd j hjd (by omega)) hj0,
      fresh := fun j hj hg => (h.far.fresh j hj ((hS j).gone hg)).imp id fun ⟨p, hp, h2⟩ => ⟨p, hd p hp (by have := h2.1; omega), h2⟩,
      gone := fun j hj hg => h.far.gone j hj ((hS j).gone hg) }⟩
end Sx
end Go.Proofs.Ytdkdoopimfchbaa
