/- A law whose tree says true on every way returns true. -/
import Derived.Test.YtgnkejdkfnkcoaaSxu
import Derived.Below
namespace Go.Proofs.Ytgnkejdkfnkcoaa
namespace Sx
open Go.RowKit

def allTrue (bs : Bds) : CT → Bool
  | .leaf r g => match r.mv with | .c (.bool e) => isT (simpT bs g e) | _ => false
  | .br _ _ t f => allTrue bs t && allTrue bs f
  | .dead => true
  | .fail _ => false
theorem allTrue_at {bs : Bds} {ρ : Val} (hb : bs.hold ρ) : ∀ {t : CT}, allTrue bs t = true → t.sure ρ → t.ok ρ ∧ ∀ r g, t.at ρ = some (r, g) → ∃ e, r.mv = .c (.bool e) ∧ e.T ρ = true
  | .leaf r g, h, hs => by
    refine ⟨trivial, fun r' g' ha => ?_⟩
    simp only [CT.at, Option.some.injEq, Prod.mk.injEq] at ha
    obtain ⟨h1, h2⟩ := ha
    subst h1 h2
    simp only [allTrue] at h
    split at h
    · rename_i e he
      refine ⟨e, he, ?_⟩
      have := isT_spec (ρ := ρ) h
      rwa [simpT_T hb hs] at this
    · cases h
  | .br _ e t f, h, hs => by
    simp only [allTrue, Bool.and_eq_true] at h
    have hs2 := hs.2
    simp only [CT.ok, CT.at]
    by_cases hc : e.T ρ = true
    · rw [if_pos hc] at hs2
      simp only [if_pos hc]
      exact allTrue_at hb h.1 hs2
    · rw [if_neg hc] at hs2
      simp only [if_neg hc]
      exact allTrue_at hb h.2 hs2
  | .dead, _, hs => hs.elim
  | .fail _, h, _ => by simp [allTrue] at h
theorem rel_none (Γ : Ctx) (w : World) : St.rel Γ (fun _ => False) {} w :=
  ⟨fun _ => trivial, fun _ => trivial, fun _ h => absurd rfl h, fun _ _ h => absurd rfl h⟩
/-- What a call comes to, where it is handed no block: its value, and the world below as it was. -/
theorem call_plain {P : Program} {bs : Bds} {call : Callee} (hc : Callee.Sound P bs call) {f : Nat} {args : List MV} {vs : List Value} {Γ : Ctx} {fs : Facts} (ha : ArgsRel Γ (fun _ => False) args vs) (hb : bs.hold Γ.ρ) (hf : fs.hold Γ.ρ)
    (hok : (call f args {} fs).ok Γ.ρ) (w : World) :
    Calls P f vs.toArray w fun e w' => (∃ v Γ' r g, e = .returned v ∧ (call f args {} fs).at Γ.ρ = some (r, g) ∧ r.mv.rel Γ' v ∧ Γ'.ρ = Γ.ρ) ∧ Below w.heap.size w w' := by
  obtain ⟨_, h⟩ := hc (fun _ => False) f args vs {} fs Γ w ha (rel_none Γ w) (fun _ h => h.elim) hb hf hok
  refine h.mono fun e w' hh => ?_
  obtain ⟨v, Γ', r, g, rfl, h1, h2, h3⟩ := hh
  exact ⟨⟨v, Γ', r, g, rfl, h1, h2, h3.ρ⟩, h3.os, h3.tape, h3.output, h3.size, fun k hk => h3.keep k hk fun p hp => absurd rfl (h3.upd p hp).2⟩
theorem law_true {P : Program} {bs : Bds} {call : Callee} (hc : Callee.Sound P bs call) (hs : Callee.Sure bs call) {f : Nat} {args : List MV} {vs : List Value} {Γ : Ctx} (ha : ArgsRel Γ (fun _ => False) args vs) (hb : bs.hold Γ.ρ)
    (h : allTrue bs (call f args {} []) = true) (w : World) : Calls P f vs.toArray w fun e w' => e = .returned (.bool true) ∧ Below w.heap.size w w' := by
  have hf : Facts.hold Γ.ρ [] := fun p hp => absurd hp (by simp)
  obtain ⟨hok, hat⟩ := allTrue_at hb h (hs f args {} [] Γ.ρ hb hf)
  refine (call_plain hc ha hb hf hok w).mono fun e w' hh => ?_
  obtain ⟨⟨v, Γ', r, g, rfl, h1, h2, h3⟩, hbel⟩ := hh
  obtain ⟨e, h4, h5⟩ := hat r g h1
  rw [h4] at h2
  refine ⟨?_, hbel⟩
  rw [MV.rel_c h2]
  simp only [MC.den, h3, h5]
theorem none_sound (P : Program) (bs : Bds) : Callee.Sound P bs (fun _ _ _ _ => .fail 131) := fun _ _ _ _ _ _ _ _ _ _ _ _ _ hok => hok.elim
theorem none_sure (bs : Bds) : Callee.Sure bs (fun _ _ _ _ => .fail 131) := fun _ _ _ _ _ _ _ => trivial
theorem callIn_sure {P : Program} {E : Env} (hsum : Callee.Sure E.bs E.sum) (n : Nat) : Callee.Sure E.bs (callIn P E (ev P E n)) := fun f args S fs ρ hb hf => by
  unfold callIn
  split
  · split
    · exact toCT_sure _ (ev_sure hsum hb n _ _ (by rw [startL_fs]; exact hf))
    · trivial
  · exact hsum f args S fs ρ hb hf
/-- The functions that are run, checked by the kernel. -/
def fnsOk (P : Program) : List (Nat × Func) → Prop
  | [] => True
  | p :: l => (P.funcs[p.1]? = some p.2 ∧ (p.2.name == "runtime.NumGoroutine") = false) ∧ fnsOk P l
theorem fnsOk_of {P : Program} : ∀ {l : List (Nat × Func)}, fnsOk P l → ∀ p ∈ l, P.funcs[p.1]? = some p.2 ∧ (p.2.name == "runtime.NumGoroutine") = false
  | [], _, p, hp => by simp at hp
  | q :: l, h, p, hp => by
    rcases List.mem_cons.1 hp with rfl | hp
    · exact h.1
    · exact fnsOk_of h.2 p hp
/-- The trivial reading. -/
def Val.zero : Val := ⟨fun _ => 0, fun _ => false, fun _ _ => 0, fun _ => ByteArray.empty⟩
theorem hold_none (ρ : Val) : Bds.hold ρ {} := by
  unfold Bds.hold
  simp
end Sx
end Go.Proofs.Ytgnkejdkfnkcoaa
