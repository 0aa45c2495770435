/- Marks in code; loops by a table; functions and laws whose arguments hold rows of numbers. -/
import Derived.Test.YtigblagodlfedaaSyb
namespace Go.Proofs.Ytigblagodlfedaa
namespace Sx
open Go.RowKit

/-! ### Marks -/
/-- The bodies of the loops of code, in the text's order. -/
def loopsL : Code → List Code
  | .seq a b => loopsL a ++ loopsL b
  | .cond _ a b => loopsL a ++ loopsL b
  | .block _ a => loopsL a
  | .loop a => a :: loopsL a
  | _ => []
def markC (m : List (Nat × Nat)) : Code → Nat → Code
  | .seq a b, i => .seq (markC m a i) (markC m b (i + (loopsL a).length))
  | .cond x a b, i => .cond x (markC m a i) (markC m b (i + (loopsL a).length))
  | .block id a, i => .block id (markC m a i)
  | .loop a, i => match lookup i m with
    | some k => (match Nat.ble 10000 k with | true => .seq (markC m a (i + 1)) (.goto (k - 10000)) | false => .goto k)
    | none => .loop (markC m a (i + 1))
  | c, _ => c
/-- The mark; from 10000 on: the first round is run. -/
def baseK (k : Nat) : Nat := match Nat.ble 10000 k with | true => k - 10000 | false => k
def noGoto : Code → Bool
  | .seq a b => noGoto a && noGoto b
  | .cond _ a b => noGoto a && noGoto b
  | .block _ a => noGoto a
  | .loop a => noGoto a
  | .goto _ => false
  | _ => true
theorem mk_of {lk : Nat → Code → Prop} {m : List (Nat × Nat)} : ∀ (c : Code) (i : Nat), noGoto c = true → (∀ j k b, lookup (i + j) m = some k → (loopsL c)[j]? = some b → lk (baseK k) (.loop b)) → Mk lk (markC m c i) c
  | .seq a b, i, hn, h => by
    simp only [noGoto, Bool.and_eq_true] at hn
    refine .seq (mk_of a i hn.1 fun j k x h1 h2 => h j k x h1 ?_) (mk_of b _ hn.2 fun j k x h1 h2 => h ((loopsL a).length + j) k x (by rw [← Nat.add_assoc]; exact h1) ?_)
    · simp only [loopsL]; rw [List.getElem?_append_left (List.getElem?_eq_some_iff.1 h2).1]; exact h2
    · simp only [loopsL]; rw [List.getElem?_append_right (by omega), Nat.add_sub_cancel_left]; exact h2
  | .cond x a b, i, hn, h => by
    simp only [noGoto, Bool.and_eq_true] at hn
    refine .cond (mk_of a i hn.1 fun j k x h1 h2 => h j k x h1 ?_) (mk_of b _ hn.2 fun j k x h1 h2 => h ((loopsL a).length + j) k x (by rw [← Nat.add_assoc]; exact h1) ?_)
    · simp only [loopsL]; rw [List.getElem?_append_left (List.getElem?_eq_some_iff.1 h2).1]; exact h2
    · simp only [loopsL]; rw [List.getElem?_append_right (by omega), Nat.add_sub_cancel_left]; exact h2
  | .block id a, i, hn, h => .block (mk_of a i hn h)
  | .loop a, i, hn, h => by
    unfold markC
    cases hk : lookup i m with
    | some k =>
      have h0 := h 0 k a (by simpa using hk) (by simp [loopsL])
      unfold baseK at h0
      simp only
      split
      · rename_i hb
        rw [hb] at h0
        exact .peel h0 (mk_of a (i + 1) hn fun j k x h1 h2 => h (j + 1) k x (by rw [show i + (j + 1) = i + 1 + j from by omega]; exact h1) (by simpa [loopsL] using h2))
      · rename_i hb
        rw [hb] at h0
        exact .known h0
    | none => exact .loop (mk_of a (i + 1) hn fun j k x h1 h2 => h (j + 1) k x (by rw [show i + (j + 1) = i + 1 + j from by omega]; exact h1) (by simpa [loopsL] using h2))
  | .skip, _, _, _ => .skip
  | .region _ _ _, _, _, _ => .region
  | .exit _, _, _, _ => .exit
  | .ret, _, _, _ => .ret
  | .rangeFunc _ _ _ _, _, _, _ => .lone trivial
  | .scope _, _, _, _ => .lone trivial
  | .label _, _, _, _ => .lone trivial
  | .refuse _, _, _, _ => .lone trivial
  | .goto _, _, hn, _ => by simp [noGoto] at hn
/-- The body of one loop of a function. -/
def loopAt (fn : Func) (j : Nat) : Code := match fn.body with | some c => (match (loopsL c)[j]? with | some b => b | none => .skip) | none => .skip
def Func.marked (fn : Func) (m : List (Nat × Nat)) : Func := { fn with body := match fn.body with | some c => some (markC m c 0) | none => none }
/-- What stands at the marks: a table of loops. -/
def lkOf (l : List (Nat × Code)) (k : Nat) (c : Code) : Prop := ∃ b, lookup k l = some b ∧ c = .loop b
def noGotoF (fn : Func) : Bool := match fn.body with | some c => noGoto c | none => true
theorem fnOk_marked {P : Program} {l : List (Nat × Code)} {f : Nat} {fn : Func} {m : List (Nat × Nat)} (h : P.funcs[f]? = some fn) (hn : (fn.name == "runtime.NumGoroutine") = false) (hg : noGotoF fn = true)
    (hm : ∀ p ∈ m, lookup (baseK p.2) l = some (loopAt fn p.1)) : FnOk P (lkOf l) f (Func.marked fn m) := by
  refine ⟨fn, h, hn, rfl, rfl, fun c' hc' => ?_⟩
  unfold Func.marked at hc'
  cases hb : fn.body with
  | none => simp [hb] at hc'
  | some c =>
    simp only [hb, Option.some.injEq] at hc'
    subst hc'
    unfold noGotoF at hg
    rw [hb] at hg
    refine ⟨c, rfl, mk_of c 0 hg fun j k b h1 h2 => ?_⟩
    rw [Nat.zero_add] at h1
    have := hm _ (Env.lookup_mem h1)
    refine ⟨b, ?_, rfl⟩
    rw [this]
    unfold loopAt
    rw [hb]
    simp only [h2]
theorem fnOk_plain {P : Program} {l : List (Nat × Code)} {f : Nat} {fn : Func} (h : P.funcs[f]? = some fn) (hn : (fn.name == "runtime.NumGoroutine") = false) (hg : noGotoF fn = true) : FnOk P (lkOf l) f fn := by
  refine ⟨fn, h, hn, rfl, rfl, fun c' hc' => ⟨c', hc', ?_⟩⟩
  unfold noGotoF at hg
  rw [hc'] at hg
  have : ∀ (c : Code) (i : Nat), markC [] c i = c := fun c => by
    induction c with
    | seq a b ha hb => intro i; simp only [markC, ha, hb]
    | cond x a b ha hb => intro i; simp only [markC, ha, hb]
    | block id a ha => intro i; simp only [markC, ha]
    | loop a ha => intro i; simp only [markC, lookup, ha]
    | _ => intro i; rfl
  have h2 := mk_of (lk := lkOf l) (m := []) c' 0 hg fun j k b h1 _ => by simp [lookup] at h1
  rwa [this] at h2
/-- A loop's ways of being known: by what stands in some slots. -/
structure Alt where
  gd : List (Nat × MV) := []
  sp : LSpec
  gb : List (Nat × Blk) := []
def guardB (fr : Fr) : List (Nat × MV) → Bool
  | [] => true
  | p :: l => MV.beq (fr.get .unk p.1) p.2 && guardB fr l
def guardS (S : St) : List (Nat × Blk) → Bool
  | [] => true
  | p :: l => Blk.beq (S.get p.1) p.2 && guardS S l
def Alt.fits (a : Alt) (l : Leaf) : Bool := guardB l.fr a.gd && guardS l.S a.gb
def runAlts (bs : Bds) (c : Code) (e : Code → Leaf → Tr) (l : Leaf) : List Alt → Tr
  | [] => .fail 165
  | a :: r => match a.fits l with | true => loopRun bs a.sp c e l | false => runAlts bs c e l r
abbrev Tab := List (Nat × (Code × List Alt))
def runTab (bs : Bds) (tab : Tab) (k : Nat) (e : Code → Leaf → Tr) (l : Leaf) : Tr :=
  match lookup k tab with
  | some x => runAlts bs x.1 e l x.2
  | none => .fail 166
theorem runAlts_ok {P : Program} {bs : Bds} {lk : Nat → Code → Prop} {c' c : Code} (hmk : Mk lk c' c) {e : Code → Leaf → Tr} (he : EvOk P bs lk e) : ∀ {as : List Alt}, (∀ a ∈ as, ∃ J μ, GoodC bs a.sp J μ) → LoopRd P bs c (fun l => runAlts bs c' e l as)
  | [], _ => fun L0 Γ0 S0 w0 Q l Γ a w _ _ _ hok => hok.elim
  | a :: r, h => fun L0 Γ0 S0 w0 Q l Γ act w hb hex hat hok hend => by
    obtain ⟨J, μ, hg⟩ := h a (by simp)
    unfold runAlts at hok hend
    cases hgd : a.fits l with
    | true => simp only [hgd] at hok hend; exact loopRun_rd hg hmk he L0 Γ0 S0 w0 Q l Γ act w hb hex hat hok hend
    | false => simp only [hgd] at hok hend; exact runAlts_ok hmk he (fun a ha => h a (by simp [ha])) L0 Γ0 S0 w0 Q l Γ act w hb hex hat hok hend
theorem runAlts_sure {bs : Bds} {c : Code} {e : Code → Leaf → Tr} {l : Leaf} {ρ : Val} (hb : bs.hold ρ) (hf : l.fs.hold ρ) : ∀ {as : List Alt}, (∀ a ∈ as, ∃ J μ, GoodC bs a.sp J μ) → (runAlts bs c e l as).sure ρ
  | [], _ => trivial
  | a :: r, h => by
    obtain ⟨J, μ, hg⟩ := h a (by simp)
    unfold runAlts
    split
    · exact loopRun_sure hg hb hf
    · exact runAlts_sure hb hf fun a ha => h a (by simp [ha])
theorem loopsOk_tab {P : Program} {E : Env} {l : List (Nat × Code)} {tab : Tab} (hl : E.loops = runTab E.bs tab) (hk : E.lk = lkOf l) (hmk : ∀ k x, lookup k tab = some x → ∀ b, lookup k l = some b → Mk (lkOf l) x.1 b)
    (hg : ∀ k x, lookup k tab = some x → ∀ a ∈ x.2, ∃ J μ, GoodC E.bs a.sp J μ) : E.LoopsOk P where
  sure e _ k l ρ hb hf := by
    rw [hl]
    unfold runTab
    split
    · rename_i x hx; exact runAlts_sure hb hf (hg k x hx)
    · trivial
  rd e he _ k c hc := by
    rw [hk] at hc
    obtain ⟨b, h1, hcb⟩ := hc
    cases hcb
    rw [hl]
    rw [hk] at he
    cases hx : lookup k tab with
    | none => intro L0 Γ0 S0 w0 Q l Γ a w _ _ _ hok; unfold runTab at hok; rw [hx] at hok; exact hok.elim
    | some x =>
      have := runAlts_ok (hmk k x hx c h1) he (hg k x hx)
      intro L0 Γ0 S0 w0 Q l Γ a w hb hex hat hok hend
      unfold runTab at hok hend
      simp only [hx] at hok hend
      exact this L0 Γ0 S0 w0 Q l Γ a w hb hex hat hok hend
  wp e he _ k c hc := by
    rw [hk] at hc
    obtain ⟨b, h1, rfl⟩ := hc
    rw [hl]
    rw [hk] at he
    cases hx : lookup k tab with
    | none => intro L0 Γ0 S0 w0 Q l Γ a w _ _ _ hok; unfold runTab at hok; rw [hx] at hok; exact hok.elim
    | some x =>
      have := (runAlts_ok (hmk k x hx b h1) he (hg k x hx)).ok
      intro L0 Γ0 S0 w0 Q l Γ a w hb hex hat hok hend
      unfold runTab at hok hend
      simp only [hx] at hok hend
      exact this L0 Γ0 S0 w0 Q l Γ a w hb hex hat hok hend
theorem loopsOk_mem {P : Program} {E : Env} {l : List (Nat × Code)} {tab : Tab} (hl : E.loops = runTab E.bs tab) (hk : E.lk = lkOf l) (hmk : ∀ p ∈ tab, ∀ b, lookup p.1 l = some b → Mk (lkOf l) p.2.1 b)
    (hg : ∀ p ∈ tab, ∀ a ∈ p.2.2, ∃ J μ, GoodC E.bs a.sp J μ) : E.LoopsOk P :=
  loopsOk_tab hl hk (fun _ _ h b hb => hmk _ (Env.lookup_mem h) b hb) (fun _ _ h => hg _ (Env.lookup_mem h))
theorem mk_self {lk : Nat → Code → Prop} {c : Code} (h : noGoto c = true) : Mk lk c c := by
  have : ∀ (c : Code) (i : Nat), markC [] c i = c := fun c => by
    induction c with
    | seq a b ha hb => intro i; simp only [markC, ha, hb]
    | cond x a b ha hb => intro i; simp only [markC, ha, hb]
    | block id a ha => intro i; simp only [markC, ha]
    | loop a ha => intro i; simp only [markC, lookup, ha]
    | _ => intro i; rfl
  have h2 := mk_of (lk := lk) (m := []) c 0 h fun j k b h1 _ => by simp [lookup] at h1
  rwa [this] at h2
theorem mk_eq {lk : Nat → Code → Prop} {c : Code} (h : noGoto c = true) {o : Option Code} (ho : o = some c) : ∀ b, o = some b → Mk lk c b := fun b hb => by
  rw [ho] at hb; cases hb; exact mk_self h
theorem mk_eqM {l : List (Nat × Code)} {m : List (Nat × Nat)} {c : Code} (h : noGoto c = true) (hm : ∀ p ∈ m, ∃ b, (loopsL c)[p.1 - 1000]? = some b ∧ lookup (baseK p.2) l = some b) {o : Option Code} (ho : o = some c) : ∀ b, o = some b → Mk (lkOf l) (markC m c 1000) b := fun b hb => by
  rw [ho] at hb; cases hb
  refine mk_of c 1000 h fun j k b h1 h2 => ?_
  obtain ⟨b', e1, e2⟩ := hm _ (Env.lookup_mem h1)
  simp only at e1 e2
  rw [Nat.add_sub_cancel_left, h2, Option.some.injEq] at e1
  exact ⟨b', e2, by rw [e1]⟩
/-- The functions that are run, marked or not, checked by the kernel. -/
theorem env_ok {P : Program} {E : Env} (h : ∀ p ∈ E.fns, FnOk P E.lk p.1 p.2) (hl : E.LoopsOk P) : E.Ok P := ⟨h, hl⟩
end Sx
end Go.Proofs.Ytigblagodlfedaa
