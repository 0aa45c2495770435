/- Functions of numbers that are known by what they come to, written out in expressions; a sure cell, the level that a place wants. -/
import Derived.Test.YtigblagodlfedaaSxx
namespace Go.Proofs.Ytigblagodlfedaa
namespace Sx
open Go.RowKit

/-! ### Arguments, as expressions -/
def cellsE (bs : Bds) (fs : Facts) : List IntKind → List MC → Option (List E)
  | [], [] => some []
  | k :: ks, .int k' e :: l =>
    match kbeq k k' && (bnd bs fs e).within k.min k.max, cellsE bs fs ks l with
    | true, some r => some (e :: r)
    | _, _ => none
  | _, _ => none
def argsE (bs : Bds) (fs : Facts) : List AS → List MV → Option (List E)
  | [], [] => some []
  | .int k :: l, .c m :: r => match cellsE bs fs [k] [m], argsE bs fs l r with | some a, some b => some (a ++ b) | _, _ => none
  | .agg ks :: l, .agg ms :: r => match cellsE bs fs ks ms, argsE bs fs l r with | some a, some b => some (a ++ b) | _, _ => none
  | _, _ => none
/-- The values of arguments of these shapes. -/
def valsOf : List AS → List Int → List Value
  | [], _ => []
  | .int k :: l, zs => .int k (zs.headD 0) :: valsOf l (zs.drop 1)
  | .agg ks :: l, zs => .agg (intsOf ks (zs.take ks.length)).toArray :: valsOf l (zs.drop ks.length)
  | _ :: l, zs => valsOf l zs
theorem cellsE_spec {bs : Bds} {fs : Facts} {Γ : Ctx} (hb : bs.hold Γ.ρ) (hf : fs.hold Γ.ρ) : ∀ {ks : List IntKind} {l : List MC} {es : List E}, cellsE bs fs ks l = some es →
    Fit ks (es.map (E.I Γ.ρ)) ∧ densOf Γ l = intsOf ks (es.map (E.I Γ.ρ))
  | [], [], es, h => by simp only [cellsE, Option.some.injEq] at h; subst h; exact ⟨.nil, rfl⟩
  | k :: ks, .int k' e :: l, es, h => by
    simp only [cellsE] at h
    split at h
    · rename_i r hw hr
      cases h
      rw [Bool.and_eq_true] at hw
      have hk := kbeq_eq hw.1
      subst hk
      obtain ⟨h1, h2⟩ := cellsE_spec hb hf hr
      refine ⟨.cons (Bd.of_within (bnd_has hb hf e) hw.2) h1, ?_⟩
      simp only [densOf, List.map_cons, MC.den, intsOf] at h2 ⊢
      rw [h2]
    · cases h
  | [], _ :: _, _, h => by simp [cellsE] at h
  | _ :: _, [], _, h => by simp [cellsE] at h
  | _ :: _, .bool _ :: _, _, h => by simp [cellsE] at h
  | _ :: _, .str _ :: _, _, h => by simp [cellsE] at h
  | _ :: _, .sv _ :: _, _, h => by simp [cellsE] at h
  | _ :: _, .ptr _ _ :: _, _, h => by simp [cellsE] at h
  | _ :: _, .nilp :: _, _, h => by simp [cellsE] at h
  | _ :: _, .slice _ _ _ _ :: _, _, h => by simp [cellsE] at h
  | _ :: _, .nils :: _, _, h => by simp [cellsE] at h
  | _ :: _, .fn _ _ :: _, _, h => by simp [cellsE] at h
  | _ :: _, .nilf :: _, _, h => by simp [cellsE] at h
  | _ :: _, .emp _ _ _ _ :: _, _, h => by simp [cellsE] at h
theorem argsE_spec {bs : Bds} {fs : Facts} {Γ : Ctx} {L : Nat → Prop} (hb : bs.hold Γ.ρ) (hf : fs.hold Γ.ρ) : ∀ {sh : List AS} {l : List MV} {vs : List Value} {es : List E}, argsE bs fs sh l = some es → ArgsRel Γ L l vs →
    Fit (AS.kinds sh) (es.map (E.I Γ.ρ)) ∧ vs = valsOf sh (es.map (E.I Γ.ρ))
  | [], [], _, es, h, ha => by simp only [argsE, Option.some.injEq] at h; subst h; cases ha; exact ⟨.nil, rfl⟩
  | .int k :: sh, .c m :: l, _, es, h, ha => by
    simp only [argsE] at h
    split at h
    · rename_i a b h1 h2
      cases h
      cases ha with
      | cons hm ht =>
        obtain ⟨h3, h4⟩ := cellsE_spec hb hf h1
        obtain ⟨h5, h6⟩ := argsE_spec hb hf h2 ht
        have h7 := MV.rel_c hm.1
        have h8 := h3.length
        simp only [List.length_map, List.length_cons, List.length_nil] at h8
        match a, h8 with
        | [e], _ =>
          simp only [densOf, List.map_cons, List.map_nil, intsOf, List.cons.injEq, and_true] at h4
          refine ⟨by simpa [AS.kinds] using h3.append h5, ?_⟩
          simp only [valsOf, List.cons_append, List.nil_append, List.map_cons, List.headD_cons, List.drop_succ_cons, List.drop_zero]
          rw [h7, h4, ← h6]
    · cases h
  | .agg ks :: sh, .agg ms :: l, _, es, h, ha => by
    simp only [argsE] at h
    split at h
    · rename_i a b h1 h2
      cases h
      cases ha with
      | cons hm ht =>
        obtain ⟨h3, h4⟩ := cellsE_spec hb hf h1
        obtain ⟨h5, h6⟩ := argsE_spec hb hf h2 ht
        have h7 := MV.rel_agg hm.1
        have h8 := h3.length
        refine ⟨by simpa [AS.kinds] using h3.append h5, ?_⟩
        simp only [valsOf, List.map_append]
        rw [List.take_left' h8, List.drop_left' h8, ← h6, h7, h4]
    · cases h
  | [], _ :: _, _, _, h, _ => by simp [argsE] at h
  | .int _ :: _, [], _, _, h, _ => by simp [argsE] at h
  | .agg _ :: _, [], _, _, h, _ => by simp [argsE] at h
  | .bool :: _, _, _, _, h, _ => by simp [argsE] at h
  | .str :: _, _, _, _, h, _ => by simp [argsE] at h
  | .int _ :: _, .unk :: _, _, _, h, _ => by simp [argsE] at h
  | .int _ :: _, .und :: _, _, _, h, _ => by simp [argsE] at h
  | .int _ :: _, .agg _ :: _, _, _, h, _ => by simp [argsE] at h
  | .int _ :: _, .tup _ :: _, _, _, h, _ => by simp [argsE] at h
  | .int _ :: _, .row _ _ _ _ :: _, _, _, h, _ => by simp [argsE] at h
  | .agg _ :: _, .row _ _ _ _ :: _, _, _, h, _ => by simp [argsE] at h
  | .agg _ :: _, .unk :: _, _, _, h, _ => by simp [argsE] at h
  | .agg _ :: _, .und :: _, _, _, h, _ => by simp [argsE] at h
  | .agg _ :: _, .c _ :: _, _, _, h, _ => by simp [argsE] at h
  | .agg _ :: _, .tup _ :: _, _, _, h, _ => by simp [argsE] at h

/-! ### A function, written out -/
structure PF where
  sh : List AS
  /-- what it comes to, of numbers -/
  V : List Int → Value
  /-- the same, of expressions -/
  X : Bds → Facts → List E → MV
structure PF.Ok (p : PF) : Prop where
  den : ∀ (bs : Bds) (fs : Facts) (es : List E) (Γ : Ctx), bs.hold Γ.ρ → fs.hold Γ.ρ → Fit (AS.kinds p.sh) (es.map (E.I Γ.ρ)) → (p.X bs fs es).rel Γ (p.V (es.map (E.I Γ.ρ)))
  on : ∀ (bs : Bds) (fs : Facts) (es : List E) (L : Nat → Prop), (p.X bs fs es).on L
def PF.Holds (P : Program) (p : PF) (f : Nat) : Prop := ∀ zs, Fit (AS.kinds p.sh) zs → Ret P f (valsOf p.sh zs) (p.V zs)
def PF.C (p : PF) (bs : Bds) : Known := fun args fs => match argsE bs fs p.sh args with | some es => .leaf { mv := p.X bs fs es } fs | none => .fail 140
theorem PF.entry {P : Program} {bs : Bds} {p : PF} {f : Nat} (hp : p.Ok) (hfn : HasFn P f) (h : p.Holds P f) : Entry P bs f (p.C bs) where
  sound L args vs S fs Γ w ha hb hf hok := by
    unfold PF.C at hok ⊢
    cases he : argsE bs fs p.sh args with
    | none => simp only [he] at hok; exact hok.elim
    | some es =>
      simp only
      obtain ⟨h1, h2⟩ := argsE_spec hb hf he ha
      subst h2
      exact leaf_ok hfn (h _ h1) (hp.den bs fs es Γ hb hf h1) (hp.on bs fs es L)
  sure args fs ρ hb hf := by
    unfold PF.C
    split
    · exact hf
    · trivial
/-- Two told values say the same. -/
def sameC (bs : Bds) (g : Facts) (n : Nat) : MC → MC → Bool
  | .int k a, .int k' b => kbeq k k' && proveC bs n g (mkEq bs g a b)
  | .bool a, .bool b => proveC bs n g (mkIteT a b (mkNot b))
  | _, _ => false
def sameCs (bs : Bds) (g : Facts) (n : Nat) : List MC → List MC → Bool
  | [], [] => true
  | a :: l, b :: r => sameC bs g n a b && sameCs bs g n l r
  | _, _ => false
def sameTup (bs : Bds) (g : Facts) (n : Nat) : List (Bool × List MC) → List (Bool × List MC) → Bool
  | [], [] => true
  | (true, a) :: l, (true, b) :: r => sameCs bs g n a b && sameTup bs g n l r
  | (false, [a]) :: l, (false, [b]) :: r => sameC bs g n a b && sameTup bs g n l r
  | _, _ => false
def sameV (bs : Bds) (g : Facts) (n : Nat) : MV → MV → Bool
  | .c a, .c b => sameC bs g n a b
  | .agg a, .agg b => sameCs bs g n a b
  | .tup a, .tup b => sameTup bs g n a b
  | _, _ => false
theorem sameC_den {bs : Bds} {g : Facts} {n : Nat} {Γ : Ctx} (hb : bs.hold Γ.ρ) (hg : g.hold Γ.ρ) {a b : MC} (h : sameC bs g n a b = true) (Γ' : Ctx) (hΓ : Γ'.ρ = Γ.ρ) : a.den Γ' = b.den Γ := by
  unfold sameC at h
  split at h
  · rename_i k x k' y
    rw [Bool.and_eq_true] at h
    have hk := kbeq_eq h.1
    subst hk
    have h2 := proveC_spec hb n g _ hg h.2
    rw [mkEq_T hb hg] at h2
    simp only [MC.den, hΓ]
    rw [of_decide_eq_true (p := x.I Γ.ρ = y.I Γ.ρ) (by simpa using h2)]
  · rename_i x y
    have h2 := proveC_spec hb n g _ hg h
    rw [mkIteT_T, mkNot_T] at h2
    simp only [MC.den, hΓ]
    revert h2
    cases x.T Γ.ρ <;> cases y.T Γ.ρ <;> simp
  · cases h
theorem sameCs_den {bs : Bds} {g : Facts} {n : Nat} {Γ : Ctx} (hb : bs.hold Γ.ρ) (hg : g.hold Γ.ρ) (Γ' : Ctx) (hΓ : Γ'.ρ = Γ.ρ) : ∀ {a b : List MC}, sameCs bs g n a b = true → densOf Γ' a = densOf Γ b
  | [], [], _ => rfl
  | a :: l, b :: r, h => by
    simp only [sameCs, Bool.and_eq_true] at h
    have h2 := sameCs_den hb hg Γ' hΓ h.2
    simp only [densOf, List.map_cons] at h2 ⊢
    rw [sameC_den hb hg h.1 Γ' hΓ, h2]
  | [], _ :: _, h => by simp [sameCs] at h
  | _ :: _, [], h => by simp [sameCs] at h
theorem sameTup_den {bs : Bds} {g : Facts} {n : Nat} {Γ : Ctx} (hb : bs.hold Γ.ρ) (hg : g.hold Γ.ρ) (Γ' : Ctx) (hΓ : Γ'.ρ = Γ.ρ) : ∀ {a b : List (Bool × List MC)}, sameTup bs g n a b = true → a.map (avDen Γ') = b.map (avDen Γ)
  | [], [], _ => rfl
  | (true, a) :: l, (true, b) :: r, h => by
    simp only [sameTup, Bool.and_eq_true] at h
    simp only [List.map_cons, avDen]
    rw [sameCs_den hb hg Γ' hΓ h.1, sameTup_den hb hg Γ' hΓ h.2]
  | (false, [a]) :: l, (false, [b]) :: r, h => by
    simp only [sameTup, Bool.and_eq_true] at h
    simp only [List.map_cons, avDen]
    rw [sameC_den hb hg h.1 Γ' hΓ, sameTup_den hb hg Γ' hΓ h.2]
  | [], _ :: _, h => by simp [sameTup] at h
  | _ :: _, [], h => by simp [sameTup] at h
  | (true, _) :: _, (false, _) :: _, h => by simp [sameTup] at h
  | (false, _) :: _, (true, _) :: _, h => by simp [sameTup] at h
  | (false, []) :: _, (false, _) :: _, h => by simp [sameTup] at h
  | (false, _ :: _ :: _) :: _, (false, _) :: _, h => by simp [sameTup] at h
  | (false, [_]) :: _, (false, []) :: _, h => by simp [sameTup] at h
  | (false, [_]) :: _, (false, _ :: _ :: _) :: _, h => by simp [sameTup] at h
theorem sameV_den {bs : Bds} {g : Facts} {n : Nat} {Γ : Ctx} (hb : bs.hold Γ.ρ) (hg : g.hold Γ.ρ) (Γ' : Ctx) (hΓ : Γ'.ρ = Γ.ρ) {a b : MV} (h : sameV bs g n a b = true) {v v' : Value} (hv : a.rel Γ' v) (hv' : b.rel Γ v') : v = v' := by
  unfold sameV at h
  split at h
  · rw [MV.rel_c hv, MV.rel_c hv', sameC_den hb hg h Γ' hΓ]
  · rw [MV.rel_agg hv, MV.rel_agg hv', sameCs_den hb hg Γ' hΓ h]
  · rename_i x y
    have h1 : v = .tuple (x.map (avDen Γ')).toArray := hv
    have h2 : v' = .tuple (y.map (avDen Γ)).toArray := hv'
    rw [h1, h2, sameTup_den hb hg Γ' hΓ h]
  · cases h
/-- All ways of a tree hand back what is written out. -/
def allV (bs : Bds) (n : Nat) (X : Facts → MV) : CT → Bool
  | .leaf r g => sameV bs g n r.mv (X g)
  | .br _ _ t f => allV bs n X t && allV bs n X f
  | .dead => true
  | .fail _ => false
theorem allV_at {bs : Bds} {ρ : Val} {n : Nat} {X : Facts → MV} : ∀ {t : CT}, allV bs n X t = true → t.sure ρ → t.ok ρ ∧ ∀ r g, t.at ρ = some (r, g) → g.hold ρ ∧ sameV bs g n r.mv (X g) = true
  | .leaf r g, h, hs => by
    refine ⟨trivial, fun r' g' ha => ?_⟩
    simp only [CT.at, Option.some.injEq, Prod.mk.injEq] at ha
    obtain ⟨h1, h2⟩ := ha
    subst h1 h2
    exact ⟨hs, h⟩
  | .br _ e t f, h, hs => by
    simp only [allV, Bool.and_eq_true] at h
    have hs2 := hs.2
    simp only [CT.ok, CT.at]
    by_cases hc : e.T ρ = true
    · rw [if_pos hc] at hs2
      simp only [if_pos hc]
      exact allV_at h.1 hs2
    · rw [if_neg hc] at hs2
      simp only [if_neg hc]
      exact allV_at h.2 hs2
  | .dead, _, hs => hs.elim
  | .fail _, h, _ => by simp [allV] at h
/-- Symbols one by one. -/
def varsE (i : Nat) : Nat → List E
  | 0 => []
  | n + 1 => .var i :: varsE (i + 1) n
theorem varsE_I {ρ : Val} : ∀ (zs : List Int) (i : Nat), (∀ j, j < zs.length → ρ.i (i + j) = zs.getD j 0) → (varsE i zs.length).map (E.I ρ) = zs
  | [], _, _ => rfl
  | z :: zs, i, h => by
    have h0 := h 0 (by simp)
    simp at h0
    have ih := varsE_I zs (i + 1) fun j hj => by have := h (j + 1) (by simpa using hj); rw [show i + 1 + j = i + (j + 1) from by omega, this]; simp
    simp only [varsE, List.map_cons, E.I, h0, List.length_cons, ih]
/-- No truths, no texts. -/
def AS.plain : List AS → Bool
  | [] => true
  | .int _ :: l => AS.plain l
  | .agg _ :: l => AS.plain l
  | _ => false
theorem mvs_rel {Γ : Ctx} : ∀ {sh : List AS} {zs : List Int} (i b s : Nat), AS.plain sh = true → Fit (AS.kinds sh) zs → (∀ j, j < zs.length → Γ.ρ.i (i + j) = zs.getD j 0) → ArgsRel Γ (fun _ => False) (AS.mvs sh i b s) (valsOf sh zs)
  | [], _, _, _, _, _, _, _ => .nil
  | .int k :: sh, zs, i, b, s, hp, hf, hj => by
    cases hf with
    | cons h t =>
      rename_i z zs
      refine .cons ⟨?_, trivial⟩ (mvs_rel (i + 1) b s hp t fun j hl => by have := hj (j + 1) (by simpa using hl); rw [show i + 1 + j = i + (j + 1) from by omega, this]; simp)
      have := hj 0 (by simp); simp at this
      simp [MV.rel, MV.den, MC.den, E.I, this]
  | .agg ks :: sh, zs, i, b, s, hp, hf, hj => by
    have hsplit : ∀ {ks ks' : List IntKind} {zs : List Int}, Fit (ks ++ ks') zs → Fit ks (zs.take ks.length) ∧ Fit ks' (zs.drop ks.length) := fun {ks} => by
      induction ks with
      | nil => intro ks' zs h; exact ⟨.nil, h⟩
      | cons k ks ih => intro ks' zs h; cases h with | cons a t => obtain ⟨h1, h2⟩ := ih t; exact ⟨.cons a h1, h2⟩
    obtain ⟨h1, h2⟩ := hsplit (ks := ks) (ks' := AS.kinds sh) hf
    have hl := h1.length
    simp only [List.length_take] at hl
    refine .cons ⟨?_, row_on ks i⟩ (mvs_rel (i + ks.length) b s hp h2 fun j hl2 => ?_)
    · simp only [MV.rel, MV.den]
      rw [row_den i h1 fun j hl2 => by
        simp only [List.length_take] at hl2
        rw [hj j (by omega)]
        simp only [List.getD_eq_getElem?_getD, List.getElem?_take]
        rw [if_pos (by omega)]]
    · simp only [List.length_drop] at hl2
      rw [show i + ks.length + j = i + (ks.length + j) from by omega, hj (ks.length + j) (by omega)]
      simp only [List.getD_eq_getElem?_getD, List.getElem?_drop]
  | .bool :: _, _, _, _, _, hp, _, _ => by simp [AS.plain] at hp
  | .str :: _, _, _, _, _, hp, _, _ => by simp [AS.plain] at hp
theorem PF.of_run {P : Program} {E : Env} {p : PF} {f n m : Nat} (hp : p.Ok) (hpl : AS.plain p.sh = true) (hm : P.follows .mixedOrders = true) (hE : E.Ok P) (hsum : Callee.Sound P E.bs E.sum) (hsure : Callee.Sure E.bs E.sum) (hbs : E.bs = AS.bds p.sh)
    (h : allV E.bs m (fun g => p.X E.bs g (varsE 0 (AS.kinds p.sh).length)) (callF P E (evF P E n) f (AS.mvs p.sh 0 0 0) {} []) = true) : p.Holds P f := by
  intro zs hfit w
  have hf : Facts.hold (Val.of zs [] []) [] := fun p hp => absurd hp (by simp)
  have hb : E.bs.hold (Val.of zs [] []) := by
    rw [hbs]
    exact ⟨fun i l u hh => hfit.get i l u hh, fun i l u hh => by simp [AS.bds] at hh, trivial⟩
  have ha : ArgsRel ⟨Val.of zs [] [], fun j => j, fun j => j⟩ (fun _ => False) (AS.mvs p.sh 0 0 0) (valsOf p.sh zs) := mvs_rel 0 0 0 hpl hfit fun j _ => by simp [Val.of]
  obtain ⟨hok, hat⟩ := allV_at h (fast_sure hE hsure n f (AS.mvs p.sh 0 0 0) {} [] _ hb hf)
  refine (call_plain (fast_sound hm hE hsum hsure n) ha hb hf hok w).mono fun e w' hh => ?_
  obtain ⟨⟨v', Γ', r, g, rfl, h1, h2, h3⟩, hbel⟩ := hh
  obtain ⟨h4, h5⟩ := hat r g h1
  refine ⟨?_, hbel⟩
  have hl := hfit.length
  have he : (varsE 0 (AS.kinds p.sh).length).map (Sx.E.I (Val.of zs [] [])) = zs := by
    rw [← hl]; exact varsE_I zs 0 fun j _ => by simp [Val.of]
  have hv := hp.den E.bs g (varsE 0 (AS.kinds p.sh).length) ⟨Val.of zs [] [], fun j => j, fun j => j⟩ hb h4 (by rw [he]; exact hfit)
  rw [he] at hv
  rw [sameV_den hb h4 Γ' h3 h5 h2 hv]

/-! ### A sure cell -/
def sureP : PF where
  sh := [.agg [.u8, .u8]]
  V := fun zs => .agg #[.int .u8 (if K.may (zs.getD 0 0) (zs.getD 1 0) then zs.getD 0 0 else 1), .int .u8 (if K.may (zs.getD 0 0) (zs.getD 1 0) then zs.getD 1 0 else 0)]
  X := fun bs fs es => let c := mkGb bs fs 0 (es.getD 0 (.lit 0)) (es.getD 1 (.lit 0)); .agg [.int .u8 (mkIteI c (es.getD 0 (.lit 0)) (.lit 1)), .int .u8 (mkIteI c (es.getD 1 (.lit 0)) (.lit 0))]
theorem getD_I {ρ : Val} (es : List E) (i : Nat) : (es.getD i (.lit 0)).I ρ = (es.map (E.I ρ)).getD i 0 := by
  simp only [List.getD_eq_getElem?_getD, List.getElem?_map]
  cases es[i]? <;> simp [E.I]
theorem sureP_ok : sureP.Ok where
  den bs fs es Γ hb hf _ := by
    simp only [sureP, MV.rel, MV.den, densOf, List.map_cons, List.map_nil, MC.den, mkIteI_I, mkGb_T hb hf, getD_I, phiB2, E.I]
  on bs fs es L := fun m h => by
    simp only [List.mem_cons, List.not_mem_nil, or_false] at h
    rcases h with rfl | rfl <;> trivial

/-! ### What a place wants -/
def nearKs : List IntKind := [.u8, .u8, .u8, .u8, .u8, .u8, .u8, .u8, .u8, .u8, .u8, .u8, .u8, .u8, .u8, .u8, .u8, .u8, .u8, .u8, .u8, .u8, .u8, .u64]
namespace W
abbrev wet := K.wet
abbrev fed := K.fed
abbrev one := K.one
def least (z : Nat → Int) : Int := min (min (min (one (z 2) (z 3) (z 14) (z 15)) (one (z 4) (z 5) (z 16) (z 17))) (one (z 6) (z 7) (z 18) (z 19))) (one (z 8) (z 9) (z 20) (z 21))
def want (z : Nat → Int) : Int × Bool := (if wet (z 10) (z 11) then 1 else if least z == 7 then 0 else least z + 1, wet (z 10) (z 11) || !(least z == 7))
end W
def wetE (bs : Bds) (fs : Facts) (k l : E) : E := mkAnd (mkGb bs fs 0 k l) (mkEq bs fs k (.lit 13))
def fedE (bs : Bds) (fs : Facts) (k l u m : E) : E := mkAnd (wetE bs fs k l) (mkAnd (mkNot (wetE bs fs u m)) (mkNot (mkAnd (mkGb bs fs 0 u m) (mkFb bs fs 3 u))))
/-- A number, as it is where a truth holds. -/
def underE (bs : Bds) (fs : Facts) (c l : E) : E := match learn bs fs c true with | some g => simpI bs g l | none => l
def oneE (bs : Bds) (fs : Facts) (k l u m : E) : E :=
  mkIteI (settle fs (fedE bs fs k l u m)) (mkMin bs fs (underE bs fs (settle fs (fedE bs fs k l u m)) l) (.lit 7)) (.lit 7)
theorem underE_I {ρ : Val} {bs : Bds} {fs : Facts} (hb : bs.hold ρ) (hf : fs.hold ρ) {c : E} (hc : c.T ρ = true) (l : E) : (underE bs fs c l).I ρ = l.I ρ := by
  obtain ⟨g, hg, hh⟩ := learn_spec (e := c) hb hc hf
  unfold underE
  rw [hg]
  exact simpI_I hb hh l
theorem wetE_T {ρ : Val} {bs : Bds} {fs : Facts} (hb : bs.hold ρ) (hf : fs.hold ρ) (k l : E) : (wetE bs fs k l).T ρ = W.wet (k.I ρ) (l.I ρ) := by
  simp only [wetE, mkAnd_T, mkGb_T hb hf, mkEq_T hb hf, W.wet, K.wet, phiB2, E.I]
theorem oneE_I {ρ : Val} {bs : Bds} {fs : Facts} (hb : bs.hold ρ) (hf : fs.hold ρ) (k l u m : E) : (oneE bs fs k l u m).I ρ = W.one (k.I ρ) (l.I ρ) (u.I ρ) (m.I ρ) := by
  have hc : (settle fs (fedE bs fs k l u m)).T ρ = K.fed (k.I ρ) (l.I ρ) (u.I ρ) (m.I ρ) := by
    simp only [fedE, settle_T hf, mkAnd_T, mkNot_T, wetE_T hb hf, mkGb_T hb hf, mkFb_T hb hf, K.fed, phiB1, phiB2]
  unfold oneE W.one K.one
  rw [mkIteI_I, hc]
  cases hw : K.fed (k.I ρ) (l.I ρ) (u.I ρ) (m.I ρ) with
  | true =>
    rw [if_pos rfl, if_pos rfl, mkMin_I hb hf, underE_I hb hf (by rw [hc, hw])]
    simp only [E.I]
  | false => simp [E.I]
def leastE (bs : Bds) (fs : Facts) (z : Nat → E) : E :=
  mkMin bs fs (mkMin bs fs (mkMin bs fs (oneE bs fs (z 2) (z 3) (z 14) (z 15)) (oneE bs fs (z 4) (z 5) (z 16) (z 17))) (oneE bs fs (z 6) (z 7) (z 18) (z 19))) (oneE bs fs (z 8) (z 9) (z 20) (z 21))
theorem leastE_I {ρ : Val} {bs : Bds} {fs : Facts} (hb : bs.hold ρ) (hf : fs.hold ρ) (z : Nat → E) : (leastE bs fs z).I ρ = W.least fun i => (z i).I ρ := by
  simp only [leastE, mkMin_I hb hf, oneE_I hb hf, W.least]
def wantX (bs : Bds) (fs : Facts) (z : Nat → E) : MV :=
  let up := settle fs (wetE bs fs (z 10) (z 11))
  let m := leastE bs fs z
  let q := mkEq bs fs m (.lit 7)
  .tup [(false, [.int .u8 (mkIteI up (.lit 1) (mkIteI q (.lit 0) (mkAdd m (.lit 1))))]), (false, [.bool (mkOr up (mkNot q))])]
def wantP : PF where
  sh := [.agg nearKs]
  V := fun zs => .tuple #[.int .u8 (W.want fun i => zs.getD i 0).1, .bool (W.want fun i => zs.getD i 0).2]
  X := fun bs fs es => wantX bs fs fun i => es.getD i (.lit 0)
theorem wantP_ok : wantP.Ok where
  den bs fs es Γ hb hf _ := by
    simp only [wantP, wantX, MV.rel, MV.den, List.map_cons, List.map_nil, avDen, MC.den, mkIteI_I, mkOr_T, mkNot_T, mkAdd_I, settle_T hf, wetE_T hb hf, mkEq_T hb hf, leastE_I hb hf, getD_I, E.I, W.want]
  on bs fs es L := fun p h => by
    simp only [List.mem_cons, List.not_mem_nil, or_false] at h
    rcases h with rfl | rfl <;> (intro m hm; simp only [List.mem_cons, List.not_mem_nil, or_false] at hm; subst hm; trivial)
/-- The reference asks level by level, side by side. -/
def pairs : List (Nat × Int) := [(0, 0), (1, 0), (2, 0), (3, 0), (0, 1), (1, 1), (2, 1), (3, 1), (0, 2), (1, 2), (2, 2), (3, 2), (0, 3), (1, 3), (2, 3), (3, 3), (0, 4), (1, 4), (2, 4), (3, 4), (0, 5), (1, 5), (2, 5), (3, 5), (0, 6), (1, 6), (2, 6), (3, 6)]
def W.fedAt (z : Nat → Int) (d : Nat) : Bool := W.fed (z (2 + 2 * d)) (z (3 + 2 * d)) (z (14 + 2 * d)) (z (15 + 2 * d))
def W.first (z : Nat → Int) : List (Nat × Int) → Int × Bool
  | [] => (0, false)
  | p :: r => if W.fedAt z p.1 && z (3 + 2 * p.1) == p.2 then (p.2 + 1, true) else W.first z r
def askE (bs : Bds) (fs : Facts) (k l u m : E) (v : Int) : E :=
  settle fs (mkAnd (wetE bs fs k l) (mkAnd (mkNot (wetE bs fs u m)) (mkAnd (mkNot (mkAnd (mkGb bs fs 0 u m) (mkFb bs fs 3 u))) (mkEq bs fs l (.lit v)))))
theorem askE_T {ρ : Val} {bs : Bds} {fs : Facts} (hb : bs.hold ρ) (hf : fs.hold ρ) (k l u m : E) (v : Int) : (askE bs fs k l u m v).T ρ = (W.fed (k.I ρ) (l.I ρ) (u.I ρ) (m.I ρ) && l.I ρ == v) := by
  simp only [askE, settle_T hf, mkAnd_T, mkNot_T, wetE_T hb hf, mkGb_T hb hf, mkFb_T hb hf, mkEq_T hb hf, W.fed, K.fed, phiB1, phiB2, E.I, Bool.and_assoc]
def firstE (bs : Bds) (fs : Facts) (z : Nat → E) : List (Nat × Int) → E × E
  | [] => (.lit 0, .bl false)
  | p :: r =>
    let c := askE bs fs (z (2 + 2 * p.1)) (z (3 + 2 * p.1)) (z (14 + 2 * p.1)) (z (15 + 2 * p.1)) p.2
    match c with
    | .bl true => (.lit (p.2 + 1), .bl true)
    | .bl false => firstE bs fs z r
    | c => (mkIteI c (.lit (p.2 + 1)) (firstE bs fs z r).1, mkOr c (firstE bs fs z r).2)
theorem fedE_T {ρ : Val} {bs : Bds} {fs : Facts} (hb : bs.hold ρ) (hf : fs.hold ρ) (k l u m : E) : (fedE bs fs k l u m).T ρ = W.fed (k.I ρ) (l.I ρ) (u.I ρ) (m.I ρ) := by
  simp only [fedE, mkAnd_T, mkNot_T, wetE_T hb hf, mkGb_T hb hf, mkFb_T hb hf, W.fed, K.fed, phiB1, phiB2]
theorem firstE_spec {ρ : Val} {bs : Bds} {fs : Facts} (hb : bs.hold ρ) (hf : fs.hold ρ) (z : Nat → E) : ∀ l : List (Nat × Int), (firstE bs fs z l).1.I ρ = (W.first (fun i => (z i).I ρ) l).1 ∧ (firstE bs fs z l).2.T ρ = (W.first (fun i => (z i).I ρ) l).2
  | [] => ⟨rfl, rfl⟩
  | p :: r => by
    obtain ⟨h1, h2⟩ := firstE_spec hb hf z r
    have hc : (askE bs fs (z (2 + 2 * p.1)) (z (3 + 2 * p.1)) (z (14 + 2 * p.1)) (z (15 + 2 * p.1)) p.2).T ρ = (W.fedAt (fun i => (z i).I ρ) p.1 && (z (3 + 2 * p.1)).I ρ == p.2) := by
      rw [askE_T hb hf]; rfl
    unfold firstE W.first
    simp only
    split
    · rename_i h; rw [h] at hc; simp only [E.T] at hc; rw [← hc]; simp [E.I, E.T]
    · rename_i h; rw [h] at hc; simp only [E.T] at hc; rw [← hc]; simpa using ⟨h1, h2⟩
    · rw [mkIteI_I, mkOr_T, hc, h1, h2]
      cases (W.fedAt (fun i => (z i).I ρ) p.1 && (z (3 + 2 * p.1)).I ρ == p.2) <;> simp [E.I]
def firstX (bs : Bds) (fs : Facts) (z : Nat → E) : MV :=
  let up := settle fs (wetE bs fs (z 10) (z 11))
  match up with
  | .bl true => .tup [(false, [.int .u8 (.lit 1)]), (false, [.bool (.bl true)])]
  | up => let q := firstE bs fs z pairs; .tup [(false, [.int .u8 (mkIteI up (.lit 1) q.1)]), (false, [.bool (mkOr up q.2)])]
def firstP : PF where
  sh := [.agg nearKs]
  V := fun zs => .tuple #[.int .u8 (if W.wet (zs.getD 10 0) (zs.getD 11 0) then 1 else (W.first (fun i => zs.getD i 0) pairs).1), .bool (W.wet (zs.getD 10 0) (zs.getD 11 0) || (W.first (fun i => zs.getD i 0) pairs).2)]
  X := fun bs fs es => firstX bs fs fun i => es.getD i (.lit 0)
theorem firstP_ok : firstP.Ok where
  den bs fs es Γ hb hf _ := by
    have hup := wetE_T hb hf (es.getD 10 (.lit 0)) (es.getD 11 (.lit 0))
    rw [← settle_T hf] at hup
    simp only [getD_I] at hup
    obtain ⟨h1, h2⟩ := firstE_spec hb hf (fun i => es.getD i (.lit 0)) pairs
    simp only [getD_I] at h1 h2
    simp only [firstP, firstX]
    split
    · rename_i h; rw [h] at hup; simp only [E.T] at hup
      simp only [MV.rel, MV.den, List.map_cons, List.map_nil, avDen, MC.den, E.I, E.T, ← hup, if_true, Bool.true_or]
    · simp only [MV.rel, MV.den, List.map_cons, List.map_nil, avDen, MC.den, mkIteI_I, mkOr_T, hup, h1, h2, E.I]
  on bs fs es L := by
    simp only [firstP, firstX]
    split <;> (intro p h; simp only [List.mem_cons, List.not_mem_nil, or_false] at h; rcases h with rfl | rfl <;> (intro m hm; simp only [List.mem_cons, List.not_mem_nil, or_false] at hm; subst hm; trivial))
def lvls : Nat → Int → List (Nat × Int)
  | 0, _ => []
  | n + 1, lv => (0, lv) :: (1, lv) :: (2, lv) :: (3, lv) :: lvls n (lv + 1)
theorem first_of (a b c d : Int) (A B C D : Bool) (ha : A = true → 0 ≤ a ∧ a ≤ 7) (hb : B = true → 0 ≤ b ∧ b ≤ 7) (hc : C = true → 0 ≤ c ∧ c ≤ 7) (hd : D = true → 0 ≤ d ∧ d ≤ 7) (z : Nat → Int)
    (f0 : W.fedAt z 0 = A) (f1 : W.fedAt z 1 = B) (f2 : W.fedAt z 2 = C) (f3 : W.fedAt z 3 = D) (z0 : z 3 = a) (z1 : z 5 = b) (z2 : z 7 = c) (z3 : z 9 = d) (m : Int)
    (hm : m = min (min (min (if A then a else 7) (if B then b else 7)) (if C then c else 7)) (if D then d else 7)) : W.first z pairs = (if m == 7 then 0 else m + 1, !(m == 7)) := by
  have key : ∀ (o0 o1 o2 o3 : Int), 0 ≤ o0 → o0 ≤ 7 → 0 ≤ o1 → o1 ≤ 7 → 0 ≤ o2 → o2 ≤ 7 → 0 ≤ o3 → o3 ≤ 7 → (∀ lv : Int, lv < 7 → (A && a == lv) = decide (o0 = lv)) → (∀ lv : Int, lv < 7 → (B && b == lv) = decide (o1 = lv)) →
      (∀ lv : Int, lv < 7 → (C && c == lv) = decide (o2 = lv)) → (∀ lv : Int, lv < 7 → (D && d == lv) = decide (o3 = lv)) → m = min (min (min o0 o1) o2) o3 → W.first z pairs = (if m == 7 then 0 else m + 1, !(m == 7)) := by
    intro o0 o1 o2 o3 p0 q0 p1 q1 p2 q2 p3 q3 k0 k1 k2 k3 hm
    have g : ∀ (n : Nat) (lv : Int), lv + n = 7 → 0 ≤ lv → (lv ≤ o0 ∧ lv ≤ o1 ∧ lv ≤ o2 ∧ lv ≤ o3) → W.first z (lvls n lv) = (if m == 7 then 0 else m + 1, !(m == 7)) := by
      intro n
      induction n with
      | zero =>
        intro lv h1 h0 ⟨h2, h3, h4, h5⟩
        have : m = 7 := by omega
        subst this
        simp [W.first, lvls]
      | succ n ih =>
        intro lv h1 h0 ⟨h2, h3, h4, h5⟩
        have hlt : lv < 7 := by omega
        have w0 : (W.fedAt z 0 && z (3 + 2 * 0) == lv) = decide (o0 = lv) := by rw [f0]; rw [show z (3 + 2 * 0) = a from z0]; exact k0 lv hlt
        have w1 : (W.fedAt z 1 && z (3 + 2 * 1) == lv) = decide (o1 = lv) := by rw [f1]; rw [show z (3 + 2 * 1) = b from z1]; exact k1 lv hlt
        have w2 : (W.fedAt z 2 && z (3 + 2 * 2) == lv) = decide (o2 = lv) := by rw [f2]; rw [show z (3 + 2 * 2) = c from z2]; exact k2 lv hlt
        have w3 : (W.fedAt z 3 && z (3 + 2 * 3) == lv) = decide (o3 = lv) := by rw [f3]; rw [show z (3 + 2 * 3) = d from z3]; exact k3 lv hlt
        have ih := ih (lv + 1) (by omega) (by omega)
        simp only [lvls, W.first, w0, w1, w2, w3]
        have fin : m = lv → (lv + 1, true) = (if m == 7 then 0 else m + 1, !(m == 7)) := fun h => by
          have : (m == 7) = false := by rw [beq_eq_false_iff_ne]; omega
          rw [this, h]; rfl
        by_cases e0 : o0 = lv
        · rw [if_pos (decide_eq_true e0)]; exact fin (by omega)
        rw [if_neg (by simp [e0])]
        by_cases e1 : o1 = lv
        · rw [if_pos (decide_eq_true e1)]; exact fin (by omega)
        rw [if_neg (by simp [e1])]
        by_cases e2 : o2 = lv
        · rw [if_pos (decide_eq_true e2)]; exact fin (by omega)
        rw [if_neg (by simp [e2])]
        by_cases e3 : o3 = lv
        · rw [if_pos (decide_eq_true e3)]; exact fin (by omega)
        rw [if_neg (by simp [e3])]
        exact ih ⟨by omega, by omega, by omega, by omega⟩
    have := g 7 0 (by omega) (by omega) ⟨p0, p1, p2, p3⟩
    exact this
  have one : ∀ (X : Bool) (x : Int), (X = true → 0 ≤ x ∧ x ≤ 7) → 0 ≤ (if X then x else 7) ∧ (if X then x else 7) ≤ 7 ∧ ∀ lv : Int, lv < 7 → (X && x == lv) = decide ((if X then x else 7) = lv) := by
    intro X x h
    cases X with
    | true => have := h rfl; refine ⟨this.1, this.2, fun lv _ => ?_⟩; simp [Bool.beq_eq_decide_eq]
    | false => refine ⟨by simp, by simp, fun lv hl => ?_⟩; simp; omega
  obtain ⟨a1, a2, a3⟩ := one A a ha
  obtain ⟨b1, b2, b3⟩ := one B b hb
  obtain ⟨c1, c2, c3⟩ := one C c hc
  obtain ⟨d1, d2, d3⟩ := one D d hd
  exact key _ _ _ _ a1 a2 b1 b2 c1 c2 d1 d2 a3 b3 c3 d3 hm
theorem fed_bd {k l u m : Int} (h0 : 0 ≤ l) (h : W.fed k l u m = true) : 0 ≤ l ∧ l ≤ 7 := by
  simp only [W.fed, K.fed, K.wet, Bool.and_eq_true] at h
  obtain ⟨⟨h1, h2⟩, _⟩ := h
  have hk : k = 13 := by simpa using h2
  subst hk
  simp [K.may, K.levels] at h1
  omega
theorem first_want (zs : List Int) (h : Fit nearKs zs) : firstP.V zs = wantP.V zs := by
  have hb : ∀ i, i < 23 → 0 ≤ zs.getD i 0 := fun i hi => by
    have hk : (nearKs.map fun k => (k.min, k.max))[i]? = some ((0 : Int), (255 : Int)) := by
      have : ∀ i : Fin 23, (nearKs.map fun k => (k.min, k.max))[i.val]? = some ((0 : Int), (255 : Int)) := by decide
      exact this ⟨i, hi⟩
    exact (h.get i _ _ hk).1
  have := first_of (zs.getD 3 0) (zs.getD 5 0) (zs.getD 7 0) (zs.getD 9 0) (W.fedAt (fun i => zs.getD i 0) 0) (W.fedAt (fun i => zs.getD i 0) 1) (W.fedAt (fun i => zs.getD i 0) 2) (W.fedAt (fun i => zs.getD i 0) 3)
    (fed_bd (hb 3 (by omega))) (fed_bd (hb 5 (by omega))) (fed_bd (hb 7 (by omega))) (fed_bd (hb 9 (by omega))) (fun i => zs.getD i 0) rfl rfl rfl rfl rfl rfl rfl rfl (W.least fun i => zs.getD i 0) (by
      simp only [W.least, W.one, K.one, W.fedAt, W.fed]
      have g : ∀ (k l u m : Int), 0 ≤ l → (if K.fed k l u m = true then min l 7 else 7) = if K.fed k l u m = true then l else 7 := fun k l u m h0 => by
        by_cases h : K.fed k l u m = true
        · have := (fed_bd h0 h).2; rw [if_pos h, if_pos h]; omega
        · rw [if_neg h, if_neg h]
      rw [g _ _ _ _ (hb 3 (by omega)), g _ _ _ _ (hb 5 (by omega)), g _ _ _ _ (hb 7 (by omega)), g _ _ _ _ (hb 9 (by omega))]; rfl)
  simp only [firstP, wantP, W.want, this]
theorem PF.Holds.other {P : Program} {f : Nat} (h : firstP.Holds P f) : wantP.Holds P f := fun zs hz => by
  rw [← first_want zs hz]
  exact h zs hz

/-! ### The same, of one number -/
theorem byte_pack : ∀ (l : List Int) (i : Nat), (∀ x ∈ l, 0 ≤ x ∧ x ≤ 255) → K.byte (K.pack l) i = l.getD i 0
  | [], i, _ => by
    have : ∀ i, K.byte 0 i = 0 := fun i => by induction i with | zero => rfl | succ i ih => simpa [K.byte] using ih
    simp [K.pack, this]
  | x :: r, 0, h => by
    have := h x (by simp)
    simp only [K.pack, K.byte, List.getD_cons_zero]
    omega
  | x :: r, i + 1, h => by
    have h1 := h x (by simp)
    have ih := byte_pack r i fun y hy => h y (by simp [hy])
    simp only [K.pack, K.byte, List.getD_cons_succ]
    rw [show (x + K.pack r * 256) / 256 = K.pack r from by omega, ih]
def packE : List E → E
  | [] => .lit 0
  | x :: r => mkAdd x (mkMul (packE r) (.lit 256))
theorem packE_I (ρ : Val) : ∀ l : List E, (packE l).I ρ = K.pack (l.map (E.I ρ))
  | [] => rfl
  | x :: r => by simp only [packE, mkAdd_I, mkMul_I, packE_I ρ r, List.map_cons, K.pack, E.I]
/-- A cell that was made sure, as it was ahead. -/
def unsure (bs : Bds) (fs : Facts) (k l : E) : E × E :=
  match k, l with
  | .ite (.bin (.gb 0) a b) a' (.lit 1), .ite (.bin (.gb 0) c d) d' (.lit 0) =>
    if E.beq a a' && (E.beq a c && (E.beq b d && (E.beq b d' && (is255 bs fs a && is255 bs fs b)))) then (a, b) else (k, l)
  | k, l => (k, l)
/-- Two cells that are one, made sure. -/
def Alike (k l k' l' : Int) : Prop := (K.may k l = true ∧ k' = k ∧ l' = l) ∨ (K.may k l = false ∧ (K.may k' l' = false ∨ (k' = 1 ∧ l' = 0)))
theorem unsure_spec {ρ : Val} {bs : Bds} {fs : Facts} (hb : bs.hold ρ) (hf : fs.hold ρ) (k l : E) (hk : 0 ≤ k.I ρ ∧ k.I ρ ≤ 255) (hl : 0 ≤ l.I ρ ∧ l.I ρ ≤ 255) :
    Alike ((unsure bs fs k l).1.I ρ) ((unsure bs fs k l).2.I ρ) (k.I ρ) (l.I ρ) ∧ (0 ≤ (unsure bs fs k l).1.I ρ ∧ (unsure bs fs k l).1.I ρ ≤ 255) ∧ (0 ≤ (unsure bs fs k l).2.I ρ ∧ (unsure bs fs k l).2.I ρ ≤ 255) := by
  have same : ∀ x y : Int, Alike x y x y := fun x y => by
    cases h : K.may x y with
    | true => exact .inl ⟨h, rfl, rfl⟩
    | false => exact .inr ⟨h, .inl h⟩
  unfold unsure
  split
  · rename_i a b a' c d d'
    split
    · rename_i h
      simp only [Bool.and_eq_true] at h
      obtain ⟨h1, h2, h3, h4, h5, h6⟩ := h
      have h1 := E.eq_of h1; have h2 := E.eq_of h2; have h3 := E.eq_of h3; have h4 := E.eq_of h4
      subst h1 h2 h3 h4
      refine ⟨?_, is255_spec hb hf h5, is255_spec hb hf h6⟩
      simp only [E.I, E.T, phiB2]
      cases h : K.may (a.I ρ) (b.I ρ) with
      | true => exact .inl ⟨h, by simp, by simp⟩
      | false => exact .inr ⟨h, .inr ⟨by simp, by simp⟩⟩
    · exact ⟨same _ _, hk, hl⟩
  · exact ⟨same _ _, hk, hl⟩
theorem wet_alike {k l k' l' : Int} (h : Alike k l k' l') : K.wet k' l' = K.wet k l := by
  rcases h with ⟨_, rfl, rfl⟩ | ⟨h, h2 | ⟨rfl, rfl⟩⟩
  · rfl
  · simp [K.wet, h, h2]
  · simp [K.wet, h]
theorem soak_alike {k l k' l' : Int} (h : Alike k l k' l') : (K.may k' l' && K.soaks k') = (K.may k l && K.soaks k) := by
  rcases h with ⟨_, rfl, rfl⟩ | ⟨h, h2 | ⟨rfl, rfl⟩⟩
  · rfl
  · simp [h, h2]
  · simp [h, K.soaks]
theorem one_alike {k l k' l' u m u' m' : Int} (h : Alike k l k' l') (g : Alike u m u' m') : K.one k' l' u' m' = K.one k l u m := by
  have hf : K.fed k' l' u' m' = K.fed k l u m := by
    unfold K.fed
    rw [wet_alike h, wet_alike g, soak_alike g]
  unfold K.one
  rw [hf]
  by_cases hw : K.fed k l u m = true
  · rw [if_pos hw, if_pos hw]
    rcases h with ⟨_, rfl, rfl⟩ | ⟨h, _⟩
    · rfl
    · simp [K.fed, K.wet, h] at hw
  · rw [if_neg hw, if_neg hw]
theorem one_bd {k l u m : Int} (h : 0 ≤ l) : 0 ≤ K.one k l u m ∧ K.one k l u m ≤ 7 := by
  unfold K.one
  split <;> omega
def cellAt (bs : Bds) (fs : Facts) (z : Nat → E) (i : Nat) : E × E := unsure bs fs (z i) (z (i + 1))
def rowW (bs : Bds) (fs : Facts) (z : Nat → E) : List E :=
  [(cellAt bs fs z 2).1, (cellAt bs fs z 2).2, (cellAt bs fs z 4).1, (cellAt bs fs z 4).2, (cellAt bs fs z 6).1, (cellAt bs fs z 6).2, (cellAt bs fs z 8).1, (cellAt bs fs z 8).2,
   (cellAt bs fs z 14).1, (cellAt bs fs z 14).2, (cellAt bs fs z 16).1, (cellAt bs fs z 16).2, (cellAt bs fs z 18).1, (cellAt bs fs z 18).2, (cellAt bs fs z 20).1, (cellAt bs fs z 20).2]
def dimX (bs : Bds) (fs : Facts) (z : Nat → E) : MV :=
  let up := settle fs (wetE bs fs (z 10) (z 11))
  let m := mkFi 1 (packE (rowW bs fs z))
  let q := mkEq bs fs m (.lit 7)
  .tup [(false, [.int .u8 (mkIteI up (.lit 1) (mkIteI q (.lit 0) (mkAdd m (.lit 1))))]), (false, [.bool (mkOr up (mkNot q))])]
theorem near_bd {zs : List Int} (h : Fit nearKs zs) (i : Nat) (hi : i < 23) : 0 ≤ zs.getD i 0 ∧ zs.getD i 0 ≤ 255 := by
  have hk : (nearKs.map fun k => (k.min, k.max))[i]? = some ((0 : Int), (255 : Int)) := by
    have : ∀ i : Fin 23, (nearKs.map fun k => (k.min, k.max))[i.val]? = some ((0 : Int), (255 : Int)) := by decide
    exact this ⟨i, hi⟩
  exact h.get i _ _ hk
theorem rowW_I {ρ : Val} {bs : Bds} {fs : Facts} (hb : bs.hold ρ) (hf : fs.hold ρ) {es : List E} (h : Fit nearKs (es.map (E.I ρ))) :
    phiI1 1 ((packE (rowW bs fs fun i => es.getD i (.lit 0))).I ρ) = W.least fun i => (es.map (E.I ρ)).getD i 0 := by
  have hz : ∀ i, i < 23 → 0 ≤ (es.getD i (.lit 0)).I ρ ∧ (es.getD i (.lit 0)).I ρ ≤ 255 := fun i hi => by rw [getD_I]; exact near_bd h i hi
  have hc : ∀ i, i < 22 → _ := fun i hi => unsure_spec (ρ := ρ) (bs := bs) (fs := fs) hb hf (es.getD i (.lit 0)) (es.getD (i + 1) (.lit 0)) (hz i (by omega)) (hz (i + 1) (by omega))
  have hrow : ∀ x ∈ (rowW bs fs fun i => es.getD i (.lit 0)).map (E.I ρ), 0 ≤ x ∧ x ≤ 255 := fun x hx => by
    simp only [rowW, cellAt, List.map_cons, List.map_nil, List.mem_cons, List.not_mem_nil, or_false] at hx
    rcases hx with h | h | h | h | h | h | h | h | h | h | h | h | h | h | h | h <;> rw [h]
    · exact (hc 2 (by omega)).2.1
    · exact (hc 2 (by omega)).2.2
    · exact (hc 4 (by omega)).2.1
    · exact (hc 4 (by omega)).2.2
    · exact (hc 6 (by omega)).2.1
    · exact (hc 6 (by omega)).2.2
    · exact (hc 8 (by omega)).2.1
    · exact (hc 8 (by omega)).2.2
    · exact (hc 14 (by omega)).2.1
    · exact (hc 14 (by omega)).2.2
    · exact (hc 16 (by omega)).2.1
    · exact (hc 16 (by omega)).2.2
    · exact (hc 18 (by omega)).2.1
    · exact (hc 18 (by omega)).2.2
    · exact (hc 20 (by omega)).2.1
    · exact (hc 20 (by omega)).2.2
  have hb2 : ∀ i, K.byte ((packE (rowW bs fs fun i => es.getD i (.lit 0))).I ρ) i = ((rowW bs fs fun i => es.getD i (.lit 0)).map (E.I ρ)).getD i 0 := fun i => by
    rw [packE_I, byte_pack _ i hrow]
  have key : K.least (K.byte ((packE (rowW bs fs fun i => es.getD i (.lit 0))).I ρ)) = W.least fun i => (es.map (E.I ρ)).getD i 0 := by
    unfold K.least W.least
    simp only [hb2]
    simp only [rowW, cellAt, List.map_cons, List.map_nil, List.getD_cons_zero, List.getD_cons_succ]
    have o1 := one_alike (hc 2 (by omega)).1 (hc 14 (by omega)).1
    have o2 := one_alike (hc 4 (by omega)).1 (hc 16 (by omega)).1
    have o3 := one_alike (hc 6 (by omega)).1 (hc 18 (by omega)).1
    have o4 := one_alike (hc 8 (by omega)).1 (hc 20 (by omega)).1
    simp only [Nat.reduceAdd] at o1 o2 o3 o4 ⊢
    rw [← o1, ← o2, ← o3, ← o4]
    simp only [getD_I]
  have hbd : 0 ≤ (W.least fun i => (es.map (E.I ρ)).getD i 0) ∧ (W.least fun i => (es.map (E.I ρ)).getD i 0) ≤ 7 := by
    unfold W.least
    have b1 := one_bd (k := (es.map (E.I ρ)).getD 2 0) (u := (es.map (E.I ρ)).getD 14 0) (m := (es.map (E.I ρ)).getD 15 0) (near_bd h 3 (by omega)).1
    have b2 := one_bd (k := (es.map (E.I ρ)).getD 4 0) (u := (es.map (E.I ρ)).getD 16 0) (m := (es.map (E.I ρ)).getD 17 0) (near_bd h 5 (by omega)).1
    have b3 := one_bd (k := (es.map (E.I ρ)).getD 6 0) (u := (es.map (E.I ρ)).getD 18 0) (m := (es.map (E.I ρ)).getD 19 0) (near_bd h 7 (by omega)).1
    have b4 := one_bd (k := (es.map (E.I ρ)).getD 8 0) (u := (es.map (E.I ρ)).getD 20 0) (m := (es.map (E.I ρ)).getD 21 0) (near_bd h 9 (by omega)).1
    simp only [W.one]
    omega
  show K.leastP _ = _
  unfold K.leastP
  rw [key]
  simp only
  rw [if_pos hbd.1, if_pos hbd.2]
/-- What a place wants, the least level as a sign of its own. -/
def dimP : PF where
  sh := [.agg nearKs]
  V := wantP.V
  X := fun bs fs es => dimX bs fs fun i => es.getD i (.lit 0)
theorem dimP_ok : dimP.Ok where
  den bs fs es Γ hb hf hfit := by
    simp only [dimP, wantP, dimX, MV.rel, MV.den, List.map_cons, List.map_nil, avDen, MC.den, mkIteI_I, mkOr_T, mkNot_T, mkAdd_I, settle_T hf, wetE_T hb hf, mkEq_T hb hf, mkFi_I, rowW_I hb hf hfit, getD_I, E.I, W.want]
  on bs fs es L := fun p h => by
    simp only [List.mem_cons, List.not_mem_nil, or_false] at h
    rcases h with rfl | rfl <;> (intro m hm; simp only [List.mem_cons, List.not_mem_nil, or_false] at hm; subst hm; trivial)
/-- What feeds bounds the least level. -/
def addFed (bs : Bds) (m l c : E) (fs : Facts) : Facts :=
  match settle fs c with
  | .bl true => addFact (.bin .lt l m) false (match (bnd bs fs l).hi with | some h => addFact (.bin .lt m (.lit (h + 1))) true fs | none => fs)
  | _ => fs
theorem addFed_hold {ρ : Val} {bs : Bds} {m l c : E} {fs : Facts} (hb : bs.hold ρ) (hf : fs.hold ρ) (h : c.T ρ = true → m.I ρ ≤ l.I ρ) : (addFed bs m l c fs).hold ρ := by
  unfold addFed
  split
  · rename_i hs
    have hc := settle_T hf c
    rw [hs] at hc
    have hm := h hc.symm
    refine addFact_hold _ _ _ (by show decide (l.I ρ < m.I ρ) = false; rw [decide_eq_false_iff_not]; omega) ?_
    have hbd := bnd_has hb hf l
    cases hh : (bnd bs fs l).hi with
    | none => exact hf
    | some x =>
      have := hbd.2 x hh
      exact addFact_hold _ _ _ (by show decide (m.I ρ < x + 1) = true; rw [decide_eq_true_iff]; omega) hf
  · exact hf
def dimFs (bs : Bds) (fs : Facts) (z : Nat → E) : Facts :=
  let m := mkFi 1 (packE (rowW bs fs z))
  addFed bs m (z 3) (fedE bs fs (z 2) (z 3) (z 14) (z 15)) (addFed bs m (z 5) (fedE bs fs (z 4) (z 5) (z 16) (z 17)) (addFed bs m (z 7) (fedE bs fs (z 6) (z 7) (z 18) (z 19)) (addFed bs m (z 9) (fedE bs fs (z 8) (z 9) (z 20) (z 21)) fs)))
theorem least_le (z : Nat → Int) : W.least z ≤ W.one (z 2) (z 3) (z 14) (z 15) ∧ W.least z ≤ W.one (z 4) (z 5) (z 16) (z 17) ∧ W.least z ≤ W.one (z 6) (z 7) (z 18) (z 19) ∧ W.least z ≤ W.one (z 8) (z 9) (z 20) (z 21) := by
  unfold W.least
  refine ⟨?_, ?_, ?_, ?_⟩ <;> omega
theorem dimFs_hold {ρ : Val} {bs : Bds} {fs : Facts} (hb : bs.hold ρ) (hf : fs.hold ρ) {es : List E} (h : Fit nearKs (es.map (E.I ρ))) : (dimFs bs fs fun i => es.getD i (.lit 0)).hold ρ := by
  have hm : (mkFi 1 (packE (rowW bs fs fun i => es.getD i (.lit 0)))).I ρ = W.least fun i => (es.map (E.I ρ)).getD i 0 := by rw [mkFi_I]; exact rowW_I hb hf h
  obtain ⟨l1, l2, l3, l4⟩ := least_le fun i => (es.map (E.I ρ)).getD i 0
  have key : ∀ (k l u v : E), (W.least fun i => (es.map (E.I ρ)).getD i 0) ≤ W.one (k.I ρ) (l.I ρ) (u.I ρ) (v.I ρ) → (fedE bs fs k l u v).T ρ = true → (mkFi 1 (packE (rowW bs fs fun i => es.getD i (.lit 0)))).I ρ ≤ l.I ρ := fun k l u v hle hc => by
    rw [fedE_T hb hf] at hc
    rw [hm]
    have : W.one (k.I ρ) (l.I ρ) (u.I ρ) (v.I ρ) = min (l.I ρ) 7 := by show K.one _ _ _ _ = _; unfold K.one; exact if_pos hc
    omega
  unfold dimFs
  refine addFed_hold hb (addFed_hold hb (addFed_hold hb (addFed_hold hb hf (key _ _ _ _ ?_)) (key _ _ _ _ ?_)) (key _ _ _ _ ?_)) (key _ _ _ _ ?_)
  · simp only [getD_I]; exact l4
  · simp only [getD_I]; exact l3
  · simp only [getD_I]; exact l2
  · simp only [getD_I]; exact l1
def dimC (bs : Bds) : Known := fun args fs => match argsE bs fs [.agg nearKs] args with | some es => .leaf { mv := dimX bs fs fun i => es.getD i (.lit 0) } (dimFs bs fs fun i => es.getD i (.lit 0)) | none => .fail 140
theorem args_near {bs : Bds} {fs : Facts} {ρ : Val} (hb : bs.hold ρ) (hf : fs.hold ρ) {l : List MV} {es : List E} (h : argsE bs fs [.agg nearKs] l = some es) : Fit nearKs (es.map (E.I ρ)) := by
  have : ∀ (vs : List Value), ArgsRel ⟨ρ, fun j => j, fun j => j⟩ (fun _ => True) l vs → Fit nearKs (es.map (E.I ρ)) := fun vs ha => by
    have := (argsE_spec (Γ := ⟨ρ, fun j => j, fun j => j⟩) hb hf h ha).1
    simpa [AS.kinds] using this
  refine this (l.map (MV.den ⟨ρ, fun j => j, fun j => j⟩)) ?_
  have on : ∀ m : MC, m.on fun _ => True := fun m => by cases m <;> simp [MC.on]
  have gen : ∀ l : List MV, ArgsRel ⟨ρ, fun j => j, fun j => j⟩ (fun _ => True) l (l.map (MV.den ⟨ρ, fun j => j, fun j => j⟩)) := fun l => by
    induction l with
    | nil => exact .nil
    | cons m l ih =>
      refine .cons ⟨MV.rel_den _ m, ?_⟩ ih
      cases m with
      | unk => trivial
      | und => trivial
      | c m => exact on m
      | agg l => exact fun m _ => on m
      | tup l => exact fun p _ m _ => on m
      | row _ _ _ _ => trivial
  exact gen l
theorem dimC_entry {P : Program} {bs : Bds} {f : Nat} (hfn : HasFn P f) (h : wantP.Holds P f) : Entry P bs f (dimC bs) where
  sound L args vs S fs Γ w ha hb hf hok := by
    unfold dimC at hok ⊢
    cases he : argsE bs fs [.agg nearKs] args with
    | none => rw [he] at hok; exact hok.elim
    | some es =>
      simp only
      obtain ⟨h1, h2⟩ := argsE_spec hb hf he ha
      subst h2
      exact leaf_ok hfn (h _ h1) (dimP_ok.den bs fs es Γ hb hf h1) (dimP_ok.on bs fs es L)
  sure args fs ρ hb hf := by
    unfold dimC
    cases he : argsE bs fs [.agg nearKs] args with
    | none => trivial
    | some es => exact dimFs_hold hb hf (args_near hb hf he)
theorem PF.Holds.dim {P : Program} {f : Nat} (h : wantP.Holds P f) : dimP.Holds P f := h

/-! ### A function of one byte that is known number by number -/
/-- Cells that are told outright. -/
def MC.still : MC → Bool
  | .int _ (.lit _) => true
  | .bool (.bl _) => true
  | .fn _ [] => true
  | _ => false
def stillCs : List MC → Bool
  | [] => true
  | m :: l => m.still && stillCs l
def MV.still : MV → Bool
  | .c m => m.still
  | .agg l => stillCs l
  | _ => false
def Γz : Ctx := ⟨Val.zero, fun j => j, fun j => j⟩
theorem MC.still_den {m : MC} (h : m.still = true) (Γ Γ' : Ctx) : m.den Γ = m.den Γ' := by
  unfold MC.still at h
  split at h <;> first | rfl | cases h
theorem stillCs_den : ∀ {l : List MC}, stillCs l = true → ∀ Γ Γ' : Ctx, densOf Γ l = densOf Γ' l
  | [], _, _, _ => rfl
  | m :: l, h, Γ, Γ' => by
    simp only [stillCs, Bool.and_eq_true] at h
    have ih := stillCs_den h.2 Γ Γ'
    simp only [densOf, List.map_cons] at ih ⊢
    rw [MC.still_den h.1 Γ Γ', ih]
theorem MC.still_on {m : MC} (h : m.still = true) (L : Nat → Prop) : m.on L := by
  unfold MC.still at h
  split at h <;> first | trivial | (intro p hp; simp at hp) | cases h
theorem stillCs_on : ∀ {l : List MC}, stillCs l = true → ∀ L : Nat → Prop, csOn L l
  | [], _, _ => fun m hm => by simp at hm
  | m :: l, h, L => by
    simp only [stillCs, Bool.and_eq_true] at h
    intro x hx
    rcases List.mem_cons.1 hx with rfl | hx
    · exact MC.still_on h.1 L
    · exact stillCs_on h.2 L x hx
theorem MV.still_rel {m : MV} (h : m.still = true) (Γ : Ctx) : m.rel Γ (m.den Γz) := by
  unfold MV.still at h
  split at h
  · simp only [MV.rel, MV.den]; exact MC.still_den h _ _
  · simp only [MV.rel, MV.den]; rw [stillCs_den h Γz Γ]
  · cases h
theorem MV.still_val {m : MV} (h : m.still = true) {Γ : Ctx} {v : Value} (hr : m.rel Γ v) : v = m.den Γz := by
  unfold MV.still at h
  split at h
  · rw [MV.rel_c hr]; exact MC.still_den h _ _
  · rw [MV.rel_agg hr, stillCs_den h Γ Γz]; rfl
  · cases h
theorem MV.still_on {m : MV} (h : m.still = true) (L : Nat → Prop) : m.on L := by
  unfold MV.still at h
  split at h
  · exact MC.still_on h L
  · exact stillCs_on h L
  · cases h
def caseV (d : MV) : List (Int × MV) → Int → MV
  | [], _ => d
  | p :: r, n => if n = p.1 then p.2 else caseV d r n
def caseT (bs : Bds) (a : E) (d : MV) : List (Int × MV) → Facts → CT
  | [], fs => .leaf { mv := d } fs
  | p :: r, fs =>
    match mkEq bs fs a (.lit p.1) with
    | .bl true => .leaf { mv := p.2 } fs
    | .bl false => caseT bs a d r fs
    | e => .br fs e (match learn bs fs e true with | some g => .leaf { mv := p.2 } g | none => .dead) (match learn bs fs e false with | some g => caseT bs a d r g | none => .dead)
theorem caseT_at {bs : Bds} {a : E} {d : MV} {ρ : Val} (hb : bs.hold ρ) : ∀ (l : List (Int × MV)) (fs : Facts), fs.hold ρ → ∃ g, (caseT bs a d l fs).at ρ = some ({ mv := caseV d l (a.I ρ) }, g) ∧ (caseT bs a d l fs).ok ρ ∧ (caseT bs a d l fs).sure ρ
  | [], fs, hf => ⟨fs, rfl, trivial, hf⟩
  | p :: r, fs, hf => by
    have he := mkEq_T hb hf a (.lit p.1)
    simp only [E.I] at he
    unfold caseT caseV
    split
    · rename_i h
      rw [h] at he; simp only [E.T] at he
      have hn : a.I ρ = p.1 := by simpa using he.symm
      rw [if_pos hn]
      exact ⟨fs, rfl, trivial, hf⟩
    · rename_i h
      rw [h] at he; simp only [E.T] at he
      have hn : a.I ρ ≠ p.1 := by simpa using he.symm
      rw [if_neg hn]
      exact caseT_at hb r fs hf
    · cases hc : (mkEq bs fs a (.lit p.1)).T ρ with
      | true =>
        have hn : a.I ρ = p.1 := by rw [he] at hc; simpa using hc
        obtain ⟨g, hg, hh⟩ := learn_spec (e := mkEq bs fs a (.lit p.1)) hb hc hf
        rw [if_pos hn]
        refine ⟨g, ?_, ?_, hf, ?_⟩ <;> simp only [CT.at, CT.ok, hc, if_true, hg]
        exact hh
      | false =>
        have hn : a.I ρ ≠ p.1 := by rw [he] at hc; simpa using hc
        obtain ⟨g, hg, hh⟩ := learn_spec (e := mkEq bs fs a (.lit p.1)) hb hc hf
        obtain ⟨g', h1, h2, h3⟩ := caseT_at (d := d) hb r g hh
        rw [if_neg hn]
        refine ⟨g', ?_, ?_, hf, ?_⟩
        · simp only [CT.at, hc, Bool.false_eq_true, if_false, hg]; exact h1
        · simp only [CT.ok, hc, Bool.false_eq_true, if_false, hg]; exact h2
        · rw [if_neg (by simp [hc])]; simp only [hg]; exact h3
def caseC (bs : Bds) (d : MV) (l : List (Int × MV)) : Known := fun args fs => match args with | [.c (.int .u8 a)] => (match is255 bs fs a with | true => caseT bs a d l fs | false => .fail 138) | _ => .fail 139
def allStill (d : MV) : List (Int × MV) → Bool
  | [] => d.still
  | p :: r => p.2.still && allStill d r
theorem caseV_still {d : MV} {n : Int} : ∀ {l : List (Int × MV)}, allStill d l = true → (caseV d l n).still = true
  | [], h => h
  | p :: r, h => by
    simp only [allStill, Bool.and_eq_true] at h
    unfold caseV
    split
    · exact h.1
    · exact caseV_still h.2
/-- What it comes to, of every byte. -/
def Cases (P : Program) (f : Nat) (d : MV) (l : List (Int × MV)) : Prop := ∀ n : Int, 0 ≤ n → n ≤ 255 → Ret P f [.int .u8 n] ((caseV d l n).den Γz)
theorem caseC_entry {P : Program} {bs : Bds} {f : Nat} {d : MV} {l : List (Int × MV)} (hfn : HasFn P f) (hst : allStill d l = true) (h : Cases P f d l) : Entry P bs f (caseC bs d l) where
  sound L args vs S fs Γ w ha hb hf hok := by
    unfold caseC at hok ⊢
    split at hok
    · rename_i a
      split at hok
      · rename_i hw
        cases ha with
        | cons h1 t1 =>
          cases t1
          have h2 := MV.rel_c h1.1
          subst h2
          obtain ⟨h3, h4⟩ := is255_spec hb hf hw
          try simp only [hw]
          obtain ⟨g, e1, _, _⟩ := caseT_at (a := a) (d := d) hb l fs hf
          refine ⟨hfn, (h _ h3 h4 w).mono fun _ _ he => ⟨_, Γ, _, _, he.1, e1, MV.still_rel (caseV_still hst) Γ, Step.below (MV.still_on (caseV_still hst) L) he.2⟩⟩
      · exact hok.elim
    · exact hok.elim
  sure args fs ρ hb hf := by
    unfold caseC
    split
    · rename_i a
      split
      · obtain ⟨_, _, _, h⟩ := caseT_at (a := a) (d := d) hb l fs hf
        exact h
      · trivial
    · trivial
/-- All ways hand back one told value. -/
def allM (m : MV) : CT → Bool
  | .leaf r _ => MV.beq r.mv m
  | .br _ _ t f => allM m t && allM m f
  | .dead => true
  | .fail _ => false
theorem allM_at {m : MV} {ρ : Val} : ∀ {t : CT}, allM m t = true → t.sure ρ → t.ok ρ ∧ ∀ r g, t.at ρ = some (r, g) → r.mv = m
  | .leaf r g, h, _ => by
    refine ⟨trivial, fun r' g' ha => ?_⟩
    simp only [CT.at, Option.some.injEq, Prod.mk.injEq] at ha
    obtain ⟨h1, _⟩ := ha
    subst h1
    exact MV.eq_of h
  | .br _ e t f, h, hs => by
    simp only [allM, Bool.and_eq_true] at h
    have hs2 := hs.2
    simp only [CT.ok, CT.at]
    by_cases hc : e.T ρ = true
    · rw [if_pos hc] at hs2
      simp only [if_pos hc]
      exact allM_at h.1 hs2
    · rw [if_neg hc] at hs2
      simp only [if_neg hc]
      exact allM_at h.2 hs2
  | .dead, _, hs => hs.elim
  | .fail _, h, _ => by simp [allM] at h
def neqs : List (Int × MV) → List (E × Bool)
  | [] => []
  | p :: r => (.bin .eq (.var 0) (.lit p.1), false) :: neqs r
/-- The runs, one for each number, and one for all others. -/
def eachRun (T : Facts → CT) : List (Int × MV) → Bool
  | [] => true
  | p :: r => allM p.2 (T (factsOf [(.bin .eq (.var 0) (.lit p.1), true)])) && eachRun T r
theorem eachRun_spec {T : Facts → CT} {d : MV} {n : Int} : ∀ {l : List (Int × MV)}, eachRun T l = true → (∃ p : Int × MV, n = p.1 ∧ caseV d l n = p.2 ∧ allM p.2 (T (factsOf [(.bin .eq (.var 0) (.lit p.1), true)])) = true) ∨ ((∀ p ∈ l, n ≠ p.1) ∧ caseV d l n = d)
  | [], _ => .inr ⟨fun p hp => by simp at hp, rfl⟩
  | p :: r, h => by
    simp only [eachRun, Bool.and_eq_true] at h
    unfold caseV
    by_cases hn : n = p.1
    · rw [if_pos hn]; exact .inl ⟨p, hn, rfl, h.1⟩
    · rw [if_neg hn]
      rcases eachRun_spec (d := d) (n := n) h.2 with h1 | ⟨h1, h2⟩
      · exact .inl h1
      · refine .inr ⟨fun q hq => ?_, h2⟩
        rcases List.mem_cons.1 hq with rfl | hq
        · exact hn
        · exact h1 q hq
theorem neqs_hold {ρ : Val} : ∀ {l : List (Int × MV)}, (∀ p ∈ l, ρ.i 0 ≠ p.1) → ∀ q ∈ neqs l, q.1.T ρ = q.2
  | [], _, q, hq => by simp [neqs] at hq
  | p :: r, h, q, hq => by
    rcases List.mem_cons.1 hq with rfl | hq
    · have := h p (by simp)
      simp only [E.T, E.I, beq_eq_false_iff_ne]; exact this
    · exact neqs_hold (fun p hp => h p (by simp [hp])) q hq
theorem cases_of {P : Program} {E : Env} {f n : Nat} {d : MV} {l : List (Int × MV)} (hm : P.follows .mixedOrders = true) (hE : E.Ok P) (hsum : Callee.Sound P E.bs E.sum) (hsure : Callee.Sure E.bs E.sum) (hbs : E.bs = AS.bds a1) (hst : allStill d l = true)
    (h1 : eachRun (fun fs => callF P E (evF P E n) f (AS.mvs a1 0 0 0) {} fs) l = true) (h2 : allM d (callF P E (evF P E n) f (AS.mvs a1 0 0 0) {} (factsOf (neqs l))) = true) : Cases P f d l := fun x h0 h255 w => by
  have hb : E.bs.hold (g1 x 0).ρ := by rw [hbs]; exact hold_a1 h0 h255
  have fin : ∀ fs : Facts, fs.hold (g1 x 0).ρ → allM (caseV d l x) (callF P E (evF P E n) f (AS.mvs a1 0 0 0) {} fs) = true → Calls P f [Value.int .u8 x].toArray w fun e w' => e = .returned ((caseV d l x).den Γz) ∧ Below w.heap.size w w' := fun fs hf hall => by
    obtain ⟨hok, hat⟩ := allM_at hall (fast_sure hE hsure n f (AS.mvs a1 0 0 0) {} fs _ hb hf)
    refine (call_plain (fast_sound hm hE hsum hsure n) (rel_a1 x) hb hf hok w).mono fun e w' hh => ?_
    obtain ⟨⟨v', Γ', r, g, rfl, e1, e2, _⟩, hbel⟩ := hh
    rw [hat r g e1] at e2
    refine ⟨?_, hbel⟩
    rw [MV.still_val (caseV_still (n := x) hst) e2]
  rcases eachRun_spec (d := d) (n := x) h1 with ⟨p, e1, e2, e3⟩ | ⟨e1, e2⟩
  · refine fin _ (factsOf_hold fun q hq => ?_) (by rw [e2]; exact e3)
    simp only [List.mem_cons, List.not_mem_nil, or_false] at hq
    subst hq
    simp [Sx.E.T, Sx.E.I, g1, Val.of, e1]
  · exact fin _ (factsOf_hold (neqs_hold fun p hp => by have := e1 p hp; simpa [g1, Val.of] using this)) (by rw [e2]; exact h2)
/-! ### The least level of a row that is told ahead, as a symbol of its own -/
def wantRow (b : Nat) : List E := [.var (b + 2), .var (b + 3), .var (b + 4), .var (b + 5), .var (b + 6), .var (b + 7), .var (b + 8), .var (b + 9), .var (b + 14), .var (b + 15), .var (b + 16), .var (b + 17), .var (b + 18), .var (b + 19), .var (b + 20), .var (b + 21)]
def LeastJ (k : Nat × Nat) (ρ : Val) : Prop := ρ.i k.1 = K.leastP (K.pack ((wantRow k.2).map (E.I ρ))) ∧ ∀ j, 2 ≤ j → j ≤ 21 → 0 ≤ ρ.i (k.2 + j) ∧ ρ.i (k.2 + j) ≤ 255
/-- A cell that was made sure, or not: the one of these symbols? -/
def cellFits (fs : Facts) (i : Nat) (c : E × E) : Bool :=
  (E.beq (.var i) c.1 && E.beq (.var (i + 1)) c.2) || (E.beq c.1 (.lit 1) && (E.beq c.2 (.lit 0) && (match settle fs (.bin (.gb 0) (.var i) (.var (i + 1))) with | .bl b => !b | _ => false)))
theorem cellFits_spec {fs : Facts} {ρ : Val} (hf : fs.hold ρ) {i : Nat} {c : E × E} (h : cellFits fs i c = true) : Alike (ρ.i i) (ρ.i (i + 1)) (c.1.I ρ) (c.2.I ρ) := by
  unfold cellFits at h
  simp only [Bool.or_eq_true, Bool.and_eq_true] at h
  rcases h with ⟨h1, h2⟩ | ⟨h1, h2, h3⟩
  · rw [← E.eq_of h1, ← E.eq_of h2]
    simp only [E.I]
    cases h : K.may (ρ.i i) (ρ.i (i + 1)) with
    | true => exact .inl ⟨h, rfl, rfl⟩
    | false => exact .inr ⟨h, .inl h⟩
  · rw [E.eq_of h1, E.eq_of h2]
    split at h3
    · rename_i b hs
      have := settle_T hf (.bin (.gb 0) (.var i) (.var (i + 1)))
      rw [hs] at this
      simp only [E.T, E.I, phiB2] at this
      refine .inr ⟨?_, .inr ⟨rfl, rfl⟩⟩
      rw [← this]; simpa using h3
    · cases h3
def fits8 (bs : Bds) (fs : Facts) (z : Nat → E) (b : Nat) : Bool :=
  cellFits fs (b + 2) (cellAt bs fs z 2) && (cellFits fs (b + 4) (cellAt bs fs z 4) && (cellFits fs (b + 6) (cellAt bs fs z 6) && (cellFits fs (b + 8) (cellAt bs fs z 8) &&
    (cellFits fs (b + 14) (cellAt bs fs z 14) && (cellFits fs (b + 16) (cellAt bs fs z 16) && (cellFits fs (b + 18) (cellAt bs fs z 18) && cellFits fs (b + 20) (cellAt bs fs z 20)))))))
def leastS (bs : Bds) (fs : Facts) (z : Nat → E) : List (Nat × Nat) → E
  | [] => mkFi 1 (packE (rowW bs fs z))
  | k :: ks => match fits8 bs fs z k.2 with | true => .var k.1 | false => leastS bs fs z ks
theorem leastJ_least {k : Nat × Nat} {ρ : Val} (h : LeastJ k ρ) : ρ.i k.1 = W.least fun i => ρ.i (k.2 + i) := by
  obtain ⟨h1, h2⟩ := h
  have hrow : ∀ x ∈ (wantRow k.2).map (E.I ρ), 0 ≤ x ∧ x ≤ 255 := fun x hx => by
    simp only [wantRow, List.map_cons, List.map_nil, E.I, List.mem_cons, List.not_mem_nil, or_false] at hx
    rcases hx with h | h | h | h | h | h | h | h | h | h | h | h | h | h | h | h <;> rw [h] <;> exact h2 _ (by omega) (by omega)
  have hb2 : ∀ i, K.byte (K.pack ((wantRow k.2).map (E.I ρ))) i = ((wantRow k.2).map (E.I ρ)).getD i 0 := fun i => byte_pack _ i hrow
  have key : K.least (K.byte (K.pack ((wantRow k.2).map (E.I ρ)))) = W.least fun i => ρ.i (k.2 + i) := by
    unfold K.least W.least
    simp only [hb2]
    simp only [wantRow, List.map_cons, List.map_nil, List.getD_cons_zero, List.getD_cons_succ, E.I]
  have hbd : 0 ≤ (W.least fun i => ρ.i (k.2 + i)) ∧ (W.least fun i => ρ.i (k.2 + i)) ≤ 7 := by
    unfold W.least
    have b1 := one_bd (k := ρ.i (k.2 + 2)) (u := ρ.i (k.2 + 14)) (m := ρ.i (k.2 + 15)) (h2 3 (by omega) (by omega)).1
    have b2 := one_bd (k := ρ.i (k.2 + 4)) (u := ρ.i (k.2 + 16)) (m := ρ.i (k.2 + 17)) (h2 5 (by omega) (by omega)).1
    have b3 := one_bd (k := ρ.i (k.2 + 6)) (u := ρ.i (k.2 + 18)) (m := ρ.i (k.2 + 19)) (h2 7 (by omega) (by omega)).1
    have b4 := one_bd (k := ρ.i (k.2 + 8)) (u := ρ.i (k.2 + 20)) (m := ρ.i (k.2 + 21)) (h2 9 (by omega) (by omega)).1
    simp only [W.one]
    omega
  rw [h1]
  unfold K.leastP
  rw [key]
  simp only
  rw [if_pos hbd.1, if_pos hbd.2]
theorem leastS_I {ρ : Val} {bs : Bds} {fs : Facts} (hb : bs.hold ρ) (hf : fs.hold ρ) {es : List E} (hfit : Fit nearKs (es.map (E.I ρ))) : ∀ {ks : List (Nat × Nat)}, (∀ k ∈ ks, LeastJ k ρ) →
    (leastS bs fs (fun i => es.getD i (.lit 0)) ks).I ρ = W.least fun i => (es.map (E.I ρ)).getD i 0
  | [], _ => by unfold leastS; rw [mkFi_I]; exact rowW_I hb hf hfit
  | k :: ks, h => by
    unfold leastS
    split
    · rename_i hfits
      simp only [fits8, Bool.and_eq_true] at hfits
      obtain ⟨f1, f2, f3, f4, f5, f6, f7, f8⟩ := hfits
      have hz : ∀ i, i < 23 → 0 ≤ (es.getD i (.lit 0)).I ρ ∧ (es.getD i (.lit 0)).I ρ ≤ 255 := fun i hi => by rw [getD_I]; exact near_bd hfit i hi
      have hc : ∀ i, i < 22 → _ := fun i hi => (unsure_spec (ρ := ρ) (bs := bs) (fs := fs) hb hf (es.getD i (.lit 0)) (es.getD (i + 1) (.lit 0)) (hz i (by omega)) (hz (i + 1) (by omega))).1
      simp only [E.I]
      rw [leastJ_least (h k (by simp))]
      have o1 := (one_alike (hc 2 (by omega)) (hc 14 (by omega))).trans (one_alike (cellFits_spec hf f1) (cellFits_spec hf f5))
      have o2 := (one_alike (hc 4 (by omega)) (hc 16 (by omega))).trans (one_alike (cellFits_spec hf f2) (cellFits_spec hf f6))
      have o3 := (one_alike (hc 6 (by omega)) (hc 18 (by omega))).trans (one_alike (cellFits_spec hf f3) (cellFits_spec hf f7))
      have o4 := (one_alike (hc 8 (by omega)) (hc 20 (by omega))).trans (one_alike (cellFits_spec hf f4) (cellFits_spec hf f8))
      simp only [getD_I] at o1 o2 o3 o4
      unfold W.least
      simp only [W.one]
      rw [show k.2 + 2 + 1 = k.2 + 3 from rfl, show k.2 + 14 + 1 = k.2 + 15 from rfl] at o1
      rw [show k.2 + 4 + 1 = k.2 + 5 from rfl, show k.2 + 16 + 1 = k.2 + 17 from rfl] at o2
      rw [show k.2 + 6 + 1 = k.2 + 7 from rfl, show k.2 + 18 + 1 = k.2 + 19 from rfl] at o3
      rw [show k.2 + 8 + 1 = k.2 + 9 from rfl, show k.2 + 20 + 1 = k.2 + 21 from rfl] at o4
      rw [← o1, ← o2, ← o3, ← o4]
    · exact leastS_I hb hf hfit fun k hk => h k (by simp [hk])
def dimXJ (ks : List (Nat × Nat)) (bs : Bds) (fs : Facts) (z : Nat → E) : MV :=
  let up := settle fs (wetE bs fs (z 10) (z 11))
  let m := leastS bs fs z ks
  let q := mkEq bs fs m (.lit 7)
  .tup [(false, [.int .u8 (mkIteI up (.lit 1) (mkIteI q (.lit 0) (mkAdd m (.lit 1))))]), (false, [.bool (mkOr up (mkNot q))])]
def dimJ (ks : List (Nat × Nat)) (bs : Bds) : Known := fun args fs => match argsE bs fs [.agg nearKs] args with | some es => .leaf { mv := dimXJ ks bs fs fun i => es.getD i (.lit 0) } fs | none => .fail 140
theorem dimJ_entry {P : Program} {ks : List (Nat × Nat)} {bs : Bds} {f : Nat} (hJ : ∀ ρ, bs.hold ρ → ∀ k ∈ ks, LeastJ k ρ) (hfn : HasFn P f) (h : wantP.Holds P f) : Entry P bs f (dimJ ks bs) where
  sound L args vs S fs Γ w ha hb hf hok := by
    unfold dimJ at hok ⊢
    cases he : argsE bs fs [.agg nearKs] args with
    | none => rw [he] at hok; exact hok.elim
    | some es =>
      simp only
      obtain ⟨h1, h2⟩ := argsE_spec hb hf he ha
      subst h2
      refine leaf_ok hfn (h _ h1) ?_ ?_
      · have hl := leastS_I hb hf h1 (hJ _ hb)
        simp only [wantP, dimXJ, MV.rel, MV.den, List.map_cons, List.map_nil, avDen, MC.den, mkIteI_I, mkOr_T, mkNot_T, mkAdd_I, settle_T hf, wetE_T hb hf, mkEq_T hb hf, hl, getD_I, E.I, W.want]
      · intro p h
        simp only [List.mem_cons, List.not_mem_nil, or_false] at h
        rcases h with rfl | rfl <;> (intro m hm; simp only [List.mem_cons, List.not_mem_nil, or_false] at hm; subst hm; trivial)
  sure args fs ρ hb hf := by
    unfold dimJ
    cases he : argsE bs fs [.agg nearKs] args with
    | none => trivial
    | some es => exact hf
/-- The arguments' bounds, and the least level of the near that begins at a number. -/
def AS.bdsJ (l : List AS) (b : Nat) : Bds := { v := (AS.bds l).v ++ [(0, 7)], J := LeastJ ((AS.kinds l).length, b) }
theorem pro_least {l : List AS} {b : Nat} (hb : b + 21 < (AS.kinds l).length ∧ ∀ j : Fin 22, 2 ≤ j.val → (AS.kinds l)[b + j.val]? = some .u8) (zs : List Int) (bs : List Bool) (ss : List ByteArray) (hf : Fit (AS.kinds l) zs) :
    ∃ ρ : Val, (∀ j, j < zs.length → ρ.i j = zs.getD j 0) ∧ (∀ j, j < bs.length → ρ.b j = bs.getD j false) ∧ (∀ j, j < ss.length → ρ.s j = ss.getD j ByteArray.empty) ∧ (AS.bdsJ l b).hold ρ := by
  have hl := hf.length
  refine ⟨⟨fun i => if i = (AS.kinds l).length then K.leastP (K.pack ((wantRow b).map (E.I (Val.of zs bs ss)))) else zs.getD i 0, fun i => bs.getD i false, fun _ _ => 0, fun i => ss.getD i ByteArray.empty⟩, fun j hj => ?_, fun j _ => rfl, fun j _ => rfl, fun i lo hi h => ?_, fun i lo hi h => ?_, ?_⟩
  · show (if j = _ then _ else _) = _
    rw [if_neg (by omega)]
  · show lo ≤ (if i = _ then _ else _) ∧ (if i = _ then _ else _) ≤ hi
    simp only [AS.bdsJ, AS.bds] at h
    by_cases hi2 : i = (AS.kinds l).length
    · subst hi2
      rw [List.getElem?_append_right (by simp)] at h
      simp at h
      obtain ⟨rfl, rfl⟩ := h
      rw [if_pos rfl]
      exact K.leastP_bd _
    · rw [if_neg hi2]
      by_cases hlt : i < (AS.kinds l).length
      · rw [List.getElem?_append_left (by simpa using hlt)] at h
        exact hf.get i lo hi h
      · rw [List.getElem?_append_right (by simp; omega), List.getElem?_eq_none (by simp; omega)] at h
        cases h
  · simp [AS.bdsJ] at h
  · show LeastJ ((AS.kinds l).length, b) _
    obtain ⟨hb, hu⟩ := hb
    refine ⟨?_, fun j h1 h2 => ?_⟩
    · simp only [if_true]
      congr 2
      simp only [wantRow, List.map_cons, List.map_nil, E.I, Val.of]
      repeat rw [if_neg (by omega)]
    · show 0 ≤ (if b + j = _ then _ else _) ∧ (if b + j = _ then _ else _) ≤ 255
      rw [if_neg (by omega)]
      have := hf.get (b + j) 0 255 (by rw [List.getElem?_map, hu ⟨j, by omega⟩ h1]; rfl)
      exact this
theorem least_of_hold {l : List AS} {b : Nat} (ρ : Val) (h : (AS.bdsJ l b).hold ρ) : ∀ k ∈ [((AS.kinds l).length, b)], LeastJ k ρ := fun k hk => by
  simp only [List.mem_cons, List.not_mem_nil, or_false] at hk
  subst hk
  exact h.2.2
end Sx
end Go.Proofs.Ytigblagodlfedaa
