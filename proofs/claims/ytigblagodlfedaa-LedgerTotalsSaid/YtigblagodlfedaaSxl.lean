/- The symbolic run: facts hold on the way that the symbols take; forks and joins. -/
import Derived.Test.YtigblagodlfedaaSxk
namespace Go.Proofs.Ytigblagodlfedaa
namespace Sx
open Go.RowKit

/-- The facts that are borne hold, on the way that the symbols take. -/
def Tr.sure (ρ : Val) : Tr → Prop
  | .leaf l => l.fs.hold ρ
  | .br fs e t f => fs.hold ρ ∧ if E.T ρ e = true then t.sure ρ else f.sure ρ
  | .dead => False
  | .fail _ => True
def CT.sure (ρ : Val) : CT → Prop
  | .leaf _ g => g.hold ρ
  | .br fs e t f => fs.hold ρ ∧ if E.T ρ e = true then t.sure ρ else f.sure ρ
  | .dead => False
  | .fail _ => True
/-- What one leaf says, the other says too. -/
def Le (ρ : Val) (l l' : Leaf) : Prop := l'.ex = l.ex ∧ (l.fs.hold ρ → l'.fs.hold ρ) ∧ ∀ L0 Γ0 S0 w0 Γ a w, Γ.ρ = ρ → At L0 Γ0 S0 w0 Γ l a w → At L0 Γ0 S0 w0 Γ l' a w
theorem Le.refl (ρ : Val) (l : Leaf) : Le ρ l l := ⟨rfl, fun h => h, fun _ _ _ _ _ _ _ _ h => h⟩
def Leads (ρ : Val) (t t' : Tr) : Prop := (t'.ok ρ → t.ok ρ) ∧ (∀ l, t.at ρ = some l → ∃ l', t'.at ρ = some l' ∧ Le ρ l l')
theorem brM_leads {keep : Bool} {fs : Facts} {e : E} {t f : Tr} {ρ : Val} {s : Bool} (he : e.T ρ = s) (hfs : fs.hold ρ) : Leads ρ (if s = true then t else f) (brM keep fs e t f) := by
  have plain : Leads ρ (if s = true then t else f) (.br fs e t f) := by
    subst he
    refine ⟨fun h => ?_, fun l hl => ⟨l, ?_, Le.refl ρ l⟩⟩
    · simp only [Tr.ok] at h
      split <;> rename_i hc
      · rwa [if_pos hc] at h
      · rwa [if_neg hc] at h
    · simp only [Tr.at]
      split <;> rename_i hc
      · rwa [if_pos hc] at hl
      · rwa [if_neg hc] at hl
  generalize hu : (if s = true then t else f) = u at plain
  unfold brM
  split
  · exact plain
  · rename_i x y
    split
    · rename_i hc
      simp only [Bool.and_eq_true, decide_eq_true_eq] at hc
      have hN := Nat.eq_of_beq_eq_true hc.1.2
      have hu' : u = .leaf (if s = true then x else y) := by rw [← hu]; cases s <;> rfl
      subst hu'
      refine ⟨fun _ => trivial, fun l hl => ⟨_, rfl, ?_⟩⟩
      simp only [Tr.at, Option.some.injEq] at hl
      subst hl
      refine ⟨by cases s <;> simp [hc.1.1], fun _ => hfs, fun L0 Γ0 S0 w0 Γ a w hρ h => ?_⟩
      subst hρ
      exact At.join he hfs hN h
    · exact plain
  · exact plain
theorem brM_sure {keep : Bool} {fs : Facts} {e : E} {t f : Tr} {ρ : Val} (hfs : fs.hold ρ) (h : (if E.T ρ e = true then t else f).sure ρ) : (brM keep fs e t f).sure ρ := by
  have plain : (Tr.br fs e t f).sure ρ := by
    refine ⟨hfs, ?_⟩
    by_cases hc : E.T ρ e = true
    · rw [if_pos hc] at h ⊢; exact h
    · rw [if_neg hc] at h ⊢; exact h
  unfold brM
  split
  · exact plain
  · split
    · exact hfs
    · exact plain
  · exact plain
theorem Tr.bind_sure {ρ : Val} {f : Leaf → Tr} (hf : ∀ l, l.fs.hold ρ → (f l).sure ρ) : ∀ t : Tr, t.sure ρ → (t.bind f).sure ρ
  | .leaf l, h => hf l h
  | .br fs e t u, h => by
    refine ⟨h.1, ?_⟩
    have h2 := h.2
    by_cases hc : E.T ρ e = true
    · rw [if_pos hc] at h2 ⊢; exact Tr.bind_sure hf t h2
    · rw [if_neg hc] at h2 ⊢; exact Tr.bind_sure hf u h2
  | .dead, h => h
  | .fail _, _ => trivial
theorem Tr.at_sure {ρ : Val} {l : Leaf} : ∀ {t : Tr}, t.sure ρ → t.at ρ = some l → l.fs.hold ρ
  | .leaf _, h, hl => by simp only [Tr.at, Option.some.injEq] at hl; subst hl; exact h
  | .br _ e t u, h, hl => by
    have h2 := h.2
    simp only [Tr.at] at hl
    by_cases hc : E.T ρ e = true
    · rw [if_pos hc] at h2 hl; exact Tr.at_sure h2 hl
    · rw [if_neg hc] at h2 hl; exact Tr.at_sure h2 hl
  | .dead, _, hl => by simp [Tr.at] at hl
  | .fail _, _, hl => by simp [Tr.at] at hl
theorem way_of {bs : Bds} {fs : Facts} {e : E} {v : Bool} {ρ : Val} (hb : bs.hold ρ) (he : e.T ρ = v) (hf : fs.hold ρ) (k : Facts → Tr) : ∃ g, g.hold ρ ∧ way bs fs e v k = k g := by
  obtain ⟨g, hg, hh⟩ := learn_spec hb he hf
  exact ⟨g, hh, by unfold way; rw [hg]⟩
/-- A fork goes on under facts that hold. -/
theorem fork_leads {bs : Bds} {keep : Bool} {fs : Facts} {e : E} {ρ : Val} (hb : bs.hold ρ) (hf : fs.hold ρ) (k : Facts → Tr) : ∃ g, g.hold ρ ∧ Leads ρ (k g) (fork bs keep fs e k) := by
  unfold fork
  cases he : E.T ρ e with
  | true =>
    obtain ⟨g, hg, hw⟩ := way_of (bs := bs) hb he hf k
    have := brM_leads (keep := keep) (t := way bs fs e true k) (f := way bs fs e false k) he hf
    rw [if_pos rfl] at this
    exact ⟨g, hg, by rw [← hw]; exact this⟩
  | false =>
    obtain ⟨g, hg, hw⟩ := way_of (bs := bs) hb he hf k
    have := brM_leads (keep := keep) (t := way bs fs e true k) (f := way bs fs e false k) he hf
    rw [if_neg (by simp)] at this
    exact ⟨g, hg, by rw [← hw]; exact this⟩
theorem fork_sure {bs : Bds} {keep : Bool} {fs : Facts} {e : E} {ρ : Val} (hb : bs.hold ρ) (hf : fs.hold ρ) {k : Facts → Tr} (hk : ∀ g, g.hold ρ → (k g).sure ρ) : (fork bs keep fs e k).sure ρ := by
  unfold fork
  apply brM_sure hf
  cases he : E.T ρ e with
  | true =>
    obtain ⟨g, hg, hw⟩ := way_of (bs := bs) hb he hf k
    rw [if_pos rfl, hw]; exact hk g hg
  | false =>
    obtain ⟨g, hg, hw⟩ := way_of (bs := bs) hb he hf k
    rw [if_neg (by simp), hw]; exact hk g hg
/-- A call's ways, each gone on with. -/
theorem CT.bind_leads {keep : Bool} {f : Res → Facts → Tr} {ρ : Val} : ∀ t : CT, t.sure ρ → ((t.bind keep f).ok ρ → t.ok ρ) ∧ ∀ r g, t.at ρ = some (r, g) → Leads ρ (f r g) (t.bind keep f)
  | .leaf r g, _ => ⟨fun _ => trivial, fun r' g' h => by
      simp only [CT.at, Option.some.injEq, Prod.mk.injEq] at h
      obtain ⟨h1, h2⟩ := h
      subst h1 h2
      exact ⟨fun h => h, fun l hl => ⟨l, hl, Le.refl ρ l⟩⟩⟩
  | .br fs e t u, hs => by
    have hs2 := hs.2
    by_cases hc : E.T ρ e = true
    · rw [if_pos hc] at hs2
      obtain ⟨h1, h2⟩ := CT.bind_leads (keep := keep) (f := f) t hs2
      have hl := brM_leads (keep := keep) (t := t.bind keep f) (f := u.bind keep f) hc hs.1
      rw [if_pos rfl] at hl
      refine ⟨fun h => ?_, fun r g h => ?_⟩
      · simp only [CT.ok, if_pos hc]; exact h1 (hl.1 h)
      · simp only [CT.at, if_pos hc] at h
        have h3 := h2 r g h
        refine ⟨fun h => h3.1 (hl.1 h), fun l hl' => ?_⟩
        obtain ⟨l1, e1, e2⟩ := h3.2 l hl'
        obtain ⟨l2, e3, e4⟩ := hl.2 l1 e1
        exact ⟨l2, e3, e4.1.trans e2.1, fun h => e4.2.1 (e2.2.1 h), fun L0 Γ0 S0 w0 Γ a w hρ h => e4.2.2 L0 Γ0 S0 w0 Γ a w hρ (e2.2.2 L0 Γ0 S0 w0 Γ a w hρ h)⟩
    · rw [if_neg hc] at hs2
      obtain ⟨h1, h2⟩ := CT.bind_leads (keep := keep) (f := f) u hs2
      have hc' : E.T ρ e = false := by simpa using hc
      have hl := brM_leads (keep := keep) (t := t.bind keep f) (f := u.bind keep f) hc' hs.1
      rw [if_neg (by simp)] at hl
      refine ⟨fun h => ?_, fun r g h => ?_⟩
      · simp only [CT.ok, if_neg hc]; exact h1 (hl.1 h)
      · simp only [CT.at, if_neg hc] at h
        have h3 := h2 r g h
        refine ⟨fun h => h3.1 (hl.1 h), fun l hl' => ?_⟩
        obtain ⟨l1, e1, e2⟩ := h3.2 l hl'
        obtain ⟨l2, e3, e4⟩ := hl.2 l1 e1
        exact ⟨l2, e3, e4.1.trans e2.1, fun h => e4.2.1 (e2.2.1 h), fun L0 Γ0 S0 w0 Γ a w hρ h => e4.2.2 L0 Γ0 S0 w0 Γ a w hρ (e2.2.2 L0 Γ0 S0 w0 Γ a w hρ h)⟩
  | .dead, _ => ⟨fun _ => trivial, fun r g h => by simp [CT.at] at h⟩
  | .fail _, _ => ⟨fun h => h, fun r g h => by simp [CT.at] at h⟩
theorem CT.bind_sure {keep : Bool} {f : Res → Facts → Tr} {ρ : Val} (hf : ∀ r g, g.hold ρ → (f r g).sure ρ) : ∀ t : CT, t.sure ρ → (t.bind keep f).sure ρ
  | .leaf r g, h => hf r g h
  | .br fs e t u, h => by
    apply brM_sure h.1
    have h2 := h.2
    by_cases hc : E.T ρ e = true
    · rw [if_pos hc] at h2 ⊢; exact CT.bind_sure hf t h2
    · rw [if_neg hc] at h2 ⊢; exact CT.bind_sure hf u h2
  | .dead, h => h
  | .fail _, _ => trivial

/-! ### What is wanted of callees -/
def Callee.Sure (bs : Bds) (call : Callee) : Prop := ∀ f args S fs ρ, bs.hold ρ → fs.hold ρ → (call f args S fs).sure ρ
def CallOk (P : Program) (T : CT) (L : Nat → Prop) (Γ : Ctx) (S : St) (w : World) (f : Nat) (vs : Array Value) : Prop :=
  (∃ fn, P.funcs[f]? = some fn ∧ (fn.name == "runtime.NumGoroutine") = false ∧ fn.body.isNone = false) ∧
  Calls P f vs w fun e w' => ∃ v Γ' r g, e = .returned v ∧ T.at Γ.ρ = some (r, g) ∧ r.mv.rel Γ' v ∧ Step Γ Γ' L S r w w'
def ArgsRel (Γ : Ctx) (L : Nat → Prop) (args : List MV) (vs : List Value) : Prop := Both (fun (m : MV) v => m.rel Γ v ∧ m.on L) args vs
def Callee.Sound (P : Program) (bs : Bds) (call : Callee) : Prop := ∀ L f args vs S fs Γ w, ArgsRel Γ L args vs → S.rel Γ L w → (∀ j, L j → j < S.n) → bs.hold Γ.ρ → fs.hold Γ.ρ →
  (call f args S fs).ok Γ.ρ → CallOk P (call f args S fs) L Γ S w f vs.toArray
theorem Both.append {α β : Type} {R : α → β → Prop} {a : List α} {b : List β} {c : List α} {d : List β} (h : Both R a b) (k : Both R c d) : Both R (a ++ c) (b ++ d) := by
  induction h with
  | nil => exact k
  | cons h _ ih => exact .cons h ih
theorem Both.map_map {γ α β : Type} {R : α → β → Prop} {f : γ → α} {g : γ → β} (h : ∀ x, R (f x) (g x)) : ∀ l : List γ, Both R (l.map f) (l.map g)
  | [] => .nil
  | x :: l => .cons (h x) (Both.map_map h l)

/-! ### Guards -/
theorem undef_bool (b : Bool) : undef ≠ .bool b := by simp [undef]
theorem yielded_of {ops : Array Oper} {j d : Nat} {tmps : Array Value} (hd : (ops[j]?).bind (·.dst) = some d) {b : Bool} (hv : tmps.getD d undef = .bool b) : yielded ops tmps j = some b := by
  unfold yielded
  rw [hd]
  have : tmps[d]? = some (.bool b) := by
    rcases Nat.lt_or_ge d tmps.size with h | h
    · simp [h] at hv ⊢; exact hv
    · simp [Array.getElem?_eq_none h] at hv
      exact absurd hv (undef_bool b)
  simp [this]
theorem yielded_undef {ops : Array Oper} {j d : Nat} {tmps : Array Value} (hd : (ops[j]?).bind (·.dst) = some d) (hv : tmps.getD d undef = undef) : yielded ops tmps j = none := by
  unfold yielded
  rw [hd]
  rcases Nat.lt_or_ge d tmps.size with h | h
  · simp [h] at hv ⊢; rw [hv]; rfl
  · simp [Array.getElem?_eq_none h]
theorem wantM_inl {bs : Bds} {fs : Facts} {all : List Oper} {fr : Fr} {o : Oper} {b : Bool} {Γ : Ctx} {a : Act} (h : wantM bs fs all fr o = some (.inl b)) (hr : ∀ t, (fr.get .unk t).rel Γ (a.tmps.getD t undef)) (hb : bs.hold Γ.ρ) (hf : fs.hold Γ.ρ) :
    Region.wanted o (yielded all.toArray a.tmps) = b := by
  unfold wantM at h
  unfold Region.wanted
  split at h
  · rename_i hg
    simp only [Option.some.injEq, Sum.inl.injEq] at h
    subst h
    simp only [hg]
  · rename_i j want hg
    simp only [hg]
    split at h
    · rename_i d hd
      have hd' : (all.toArray[j]?).bind (·.dst) = some d := by simpa using hd
      have hv := hr d
      split at h
      · rename_i hm
        simp only [Option.some.injEq, Sum.inl.injEq] at h
        subst h
        rw [hm] at hv
        rw [yielded_undef hd' hv]
        simp
      · split at h
        · rename_i b' hc
          simp only [Option.some.injEq, Sum.inl.injEq] at h
          subst h
          rw [yielded_of hd' (condM_inl hc hv hb hf)]
          simp
        · rename_i hne
          exact absurd h (hne b)
    · cases h
end Sx
end Go.Proofs.Ytigblagodlfedaa
