/- A law whose tree says true on every way returns true. -/
import Derived.Test.YtigblagodlfedaaSxy
import Derived.Below
namespace Go.Proofs.Ytigblagodlfedaa
namespace Sx
open Go.RowKit

/-- A number of which a truth asks what kind it is. -/
def findK : E → Option E
  | .un (.fb _) a => some a
  | .bin (.gb _) a _ => some a
  | .un _ a => findK a
  | .bin _ a b => match findK a with | some x => some x | none => findK b
  | .ite c a b => match findK c with | some x => some x | none => match findK a with | some x => some x | none => findK b
  | _ => none
/-- The same, of what is known: of a number or a truth that parts, else of anything. -/
def findKI : Facts → Option E
  | [] => none
  | p :: r => match p.e with | .ite c a b => (match findK (.ite c a b) with | some x => some x | none => findKI r) | _ => findKI r
def findKA : Facts → Option E
  | [] => none
  | p :: r => match findK p.e with | some x => some x | none => findKA r
def findKF (fs : Facts) : Option E := match findKI fs with | some x => some x | none => findKA fs
/-- Each number below 15 that the facts leave, and those from 15 on. -/
def eachK (bs : Bds) (fs : Facts) (a : E) (p : Facts → Bool) : Nat → Bool
  | 0 => match learn bs fs (.bin .lt a (.lit 15)) false with | none => true | some g => p g
  | k + 1 => (match learn bs fs (.bin .eq a (.lit k)) true with | none => true | some g => p g) && eachK bs fs a p k
theorem eachK_spec {ρ : Val} {bs : Bds} {fs : Facts} {a : E} {p : Facts → Bool} (hb : bs.hold ρ) (hf : fs.hold ρ) (h0 : 0 ≤ a.I ρ) {Q : Prop} (hp : ∀ g : Facts, g.hold ρ → p g = true → Q) :
    ∀ k, eachK bs fs a p k = true → (15 ≤ a.I ρ ∨ a.I ρ < k) → Q
  | 0, h, hk => by
    unfold eachK at h
    obtain ⟨g, hg, hh⟩ := learn_spec (e := .bin .lt a (.lit 15)) (v := false) hb (by show decide (a.I ρ < 15) = false; rw [decide_eq_false_iff_not]; omega) hf
    rw [hg] at h
    exact hp g hh h
  | k + 1, h, hk => by
    unfold eachK at h
    rw [Bool.and_eq_true] at h
    by_cases he : a.I ρ = k
    · obtain ⟨g, hg, hh⟩ := learn_spec (e := .bin .eq a (.lit k)) (v := true) hb (by show (a.I ρ == (k : Int)) = true; rw [he]; exact beq_self_eq_true _) hf
      have h1 := h.1
      rw [hg] at h1
      exact hp g hh h1
    · exact eachK_spec hb hf h0 hp k h.2 (by omega)
/-- A truth that holds, whatever the kinds. -/
def prove (bs : Bds) : Nat → Facts → E → Bool
  | 0, fs, e => isT (simpT bs fs e)
  | n + 1, fs, e =>
    match simpT bs fs e with
    | .bl true => true
    | q => match (match findK q with | some a => some a | none => findKF fs) with
      | none => false
      | some a => (bnd bs fs a).within 0 255 && eachK bs fs a (fun g => prove bs n g q) 15
theorem prove_spec {ρ : Val} {bs : Bds} (hb : bs.hold ρ) : ∀ (n : Nat) (fs : Facts) (e : E), fs.hold ρ → prove bs n fs e = true → e.T ρ = true
  | 0, fs, e, hf, h => by
    have := isT_spec (ρ := ρ) h
    rwa [simpT_T hb hf] at this
  | n + 1, fs, e, hf, h => by
    rw [← simpT_T hb hf e]
    unfold prove at h
    split at h
    · rename_i hs; rw [hs]; rfl
    · split at h
      · cases h
      · rename_i a _
        rw [Bool.and_eq_true] at h
        have hw := Bd.of_within (bnd_has hb hf a) h.1
        exact eachK_spec hb hf hw.1 (fun g hg hpg => prove_spec hb n g _ hg hpg) 15 h.2 (by omega)
/-- A condition that parts a number or a truth. -/
def findC : E → Option E
  | .ite c _ _ => match findC c with | some x => some x | none => some c
  | .un _ a => findC a
  | .bin _ a b => match findC a with | some x => some x | none => findC b
  | _ => none
/-- A truth that holds, whatever the conditions in it. -/
def proveC (bs : Bds) : Nat → Facts → E → Bool
  | 0, fs, e => isT (settle fs (simpT bs fs e))
  | n + 1, fs, e =>
    match settle fs (simpT bs fs e) with
    | .bl b => b
    | q => match findC q with
      | none => false
      | some c => (match learn bs fs c true with | none => true | some g => proveC bs n g q) && (match learn bs fs c false with | none => true | some g => proveC bs n g q)
theorem proveC_spec {ρ : Val} {bs : Bds} (hb : bs.hold ρ) : ∀ (n : Nat) (fs : Facts) (e : E), fs.hold ρ → proveC bs n fs e = true → e.T ρ = true
  | 0, fs, e, hf, h => by
    have := isT_spec (ρ := ρ) h
    rwa [settle_T hf, simpT_T hb hf] at this
  | n + 1, fs, e, hf, h => by
    rw [← simpT_T hb hf e, ← settle_T hf]
    unfold proveC at h
    split at h
    · rename_i b hs; rw [hs]; simp only [E.T]; exact h
    · split at h
      · cases h
      · rename_i c _
        rw [Bool.and_eq_true] at h
        cases hc : c.T ρ with
        | true =>
          obtain ⟨g, hg, hh⟩ := learn_spec (e := c) hb hc hf
          have h1 := h.1
          rw [hg] at h1
          exact proveC_spec hb n g _ hh h1
        | false =>
          obtain ⟨g, hg, hh⟩ := learn_spec (e := c) hb hc hf
          have h1 := h.2
          rw [hg] at h1
          exact proveC_spec hb n g _ hh h1
def allTrue (bs : Bds) : CT → Bool
  | .leaf r g => match r.mv with | .c (.bool e) => proveC bs 8 g e || prove bs 2 g e | _ => false
  | .br _ _ t f => allTrue bs t && allTrue bs f
  | .dead => true
  | .fail _ => false
theorem allTrue_at {bs : Bds} {ρ : Val} (hb : bs.hold ρ) : ∀ {t : CT}, allTrue bs t = true → t.sure ρ → t.ok ρ ∧ ∀ r g, t.at ρ = some (r, g) → ∃ e, r.mv = .c (.bool e) ∧ e.T ρ = true
  | .leaf r g, h, hs => by
    refine ⟨trivial, fun r' g' ha => ?_⟩
    simp only [CT.at, Option.some.injEq, Prod.mk.injEq] at ha
    obtain ⟨h1, h2⟩ := ha
    subst h1 h2
    simp only [allTrue] at h
    split at h
    · rename_i e he
      rw [Bool.or_eq_true] at h
      exact ⟨e, he, h.elim (proveC_spec hb 8 _ _ hs) (prove_spec hb 2 _ _ hs)⟩
    · cases h
  | .br _ e t f, h, hs => by
    simp only [allTrue, Bool.and_eq_true] at h
    have hs2 := hs.2
    simp only [CT.ok, CT.at]
    by_cases hc : e.T ρ = true
    · rw [if_pos hc] at hs2
      simp only [if_pos hc]
      exact allTrue_at hb h.1 hs2
    · rw [if_neg hc] at hs2
      simp only [if_neg hc]
      exact allTrue_at hb h.2 hs2
  | .dead, _, hs => hs.elim
  | .fail _, h, _ => by simp [allTrue] at h
theorem rel_none (Γ : Ctx) (w : World) : St.rel Γ (fun _ => False) {} w :=
  ⟨fun _ => trivial, fun _ => trivial, fun _ h => absurd rfl h, fun _ _ h => absurd rfl h⟩
/-- What a call comes to, where it is handed no block: its value, and the world below as it was. -/
theorem call_plain {P : Program} {bs : Bds} {call : Callee} (hc : Callee.Sound P bs call) {f : Nat} {args : List MV} {vs : List Value} {Γ : Ctx} {fs : Facts} (ha : ArgsRel Γ (fun _ => False) args vs) (hb : bs.hold Γ.ρ) (hf : fs.hold Γ.ρ)
    (hok : (call f args {} fs).ok Γ.ρ) (w : World) :
    Calls P f vs.toArray w fun e w' => (∃ v Γ' r g, e = .returned v ∧ (call f args {} fs).at Γ.ρ = some (r, g) ∧ r.mv.rel Γ' v ∧ Γ'.ρ = Γ.ρ) ∧ Below w.heap.size w w' := by
  obtain ⟨_, h⟩ := hc (fun _ => False) f args vs {} fs Γ w ha (rel_none Γ w) (fun _ h => h.elim) hb hf hok
  refine h.mono fun e w' hh => ?_
  obtain ⟨v, Γ', r, g, rfl, h1, h2, h3⟩ := hh
  exact ⟨⟨v, Γ', r, g, rfl, h1, h2, h3.ρ⟩, h3.os, h3.tape, h3.output, h3.size, fun k hk => h3.keep k hk fun p hp => absurd rfl (h3.upd p hp).2⟩
theorem law_true {P : Program} {bs : Bds} {call : Callee} (hc : Callee.Sound P bs call) (hs : Callee.Sure bs call) {f : Nat} {args : List MV} {vs : List Value} {Γ : Ctx} (ha : ArgsRel Γ (fun _ => False) args vs) (hb : bs.hold Γ.ρ)
    (h : allTrue bs (call f args {} []) = true) (w : World) : Calls P f vs.toArray w fun e w' => e = .returned (.bool true) ∧ Below w.heap.size w w' := by
  have hf : Facts.hold Γ.ρ [] := fun p hp => absurd hp (by simp)
  obtain ⟨hok, hat⟩ := allTrue_at hb h (hs f args {} [] Γ.ρ hb hf)
  refine (call_plain hc ha hb hf hok w).mono fun e w' hh => ?_
  obtain ⟨⟨v, Γ', r, g, rfl, h1, h2, h3⟩, hbel⟩ := hh
  obtain ⟨e, h4, h5⟩ := hat r g h1
  rw [h4] at h2
  refine ⟨?_, hbel⟩
  rw [MV.rel_c h2]
  simp only [MC.den, h3, h5]
theorem none_sound (P : Program) (bs : Bds) : Callee.Sound P bs (fun _ _ _ _ => .fail 131) := fun _ _ _ _ _ _ _ _ _ _ _ _ _ hok => hok.elim
theorem none_sure (bs : Bds) : Callee.Sure bs (fun _ _ _ _ => .fail 131) := fun _ _ _ _ _ _ _ => trivial
theorem callIn_sure {P : Program} {E : Env} (hE : E.Ok P) (hsum : Callee.Sure E.bs E.sum) (n : Nat) : Callee.Sure E.bs (callIn P E (ev P E n)) := fun f args S fs ρ hb hf => by
  unfold callIn
  split
  · split
    · exact toCT_sure _ (ev_sure hE.loops.sure hsum hb n _ _ (by rw [startL_fs]; exact hf))
    · trivial
  · exact hsum f args S fs ρ hb hf
theorem fast_sound {P : Program} {E : Env} (hm : P.follows .mixedOrders = true) (hE : E.Ok P) (hsum : Callee.Sound P E.bs E.sum) (hsure : Callee.Sure E.bs E.sum) (n : Nat) : Callee.Sound P E.bs (callF P E (evF P E n)) := by
  rw [fast]
  exact sound hm hE hsum hsure n
theorem fast_sure {P : Program} {E : Env} (hE : E.Ok P) (hsum : Callee.Sure E.bs E.sum) (n : Nat) : Callee.Sure E.bs (callF P E (evF P E n)) := by
  rw [fast]
  exact callIn_sure hE hsum n
/-- The functions that are run, checked by the kernel. -/
def fnsOk (P : Program) : List (Nat × Func) → Prop
  | [] => True
  | p :: l => (P.funcs[p.1]? = some p.2 ∧ (p.2.name == "runtime.NumGoroutine") = false) ∧ fnsOk P l
theorem fnsOk_mem {P : Program} : ∀ {l : List (Nat × Func)}, fnsOk P l → ∀ p ∈ l, P.funcs[p.1]? = some p.2 ∧ (p.2.name == "runtime.NumGoroutine") = false
  | [], _, p, hp => by simp at hp
  | q :: l, h, p, hp => by
    rcases List.mem_cons.1 hp with rfl | hp
    · exact h.1
    · exact fnsOk_mem h.2 p hp
/-- An environment without marks. -/
theorem ok_of {P : Program} {E : Env} (h : fnsOk P E.fns) (hl : E.loops = fun _ _ _ => .fail 144) (hk : E.lk = fun k c => c = .goto k) : E.Ok P :=
  ⟨fun p hp => by rw [hk]; obtain ⟨h1, h2⟩ := fnsOk_mem h p hp; exact FnOk.self h1 h2, loopsOk_none hl⟩
/-- The trivial reading. -/
def Val.zero : Val := ⟨fun _ => 0, fun _ => false, fun _ _ => 0, fun _ => ByteArray.empty⟩
theorem hold_none (ρ : Val) : Bds.hold ρ {} := by
  unfold Bds.hold
  simp
end Sx
end Go.Proofs.Ytigblagodlfedaa
