/- The symbolic run: whole code, calls. -/
import Derived.Test.YtigblagodlfedaaSxm
import Derived.LoopN
namespace Go.Proofs.Ytigblagodlfedaa
namespace Sx
open Go.RowKit

theorem regionW_sure {P : Program} {bs : Bds} {call : Callee} {keep draw : Bool} {ops : List Oper} {next : Leaf → Tr} {ρ : Val} (hcall : Callee.Sure bs call) (hb : bs.hold ρ) (hn : ∀ l : Leaf, l.fs.hold ρ → (next l).sure ρ) {l : Leaf} (hf : l.fs.hold ρ) : (regionW P bs call keep draw ops next l).sure ρ :=
  runOps_sure hcall hb (fun l lg hf => by cases draw <;> simp only; exact hf; split; exact hf; exact hn _ hf) _ _ _ _ hf
theorem regionN_sure {P : Program} {bs : Bds} {call : Callee} {keep draw : Bool} {ops : List Oper} {ρ : Val} (hcall : Callee.Sure bs call) (hb : bs.hold ρ) : ∀ (n : Nat) (l : Leaf), l.fs.hold ρ → (regionN P bs call keep draw ops n l).sure ρ
  | 0, _, hf => regionW_sure (next := fun _ => .fail 122) hcall hb (fun _ _ => trivial) hf
  | n + 1, _, hf => regionW_sure hcall hb (fun l hl => regionN_sure hcall hb n l hl) hf
theorem region_sure {P : Program} {bs : Bds} {call : Callee} {keep draw : Bool} {ops : List Oper} {l : Leaf} {ρ : Val} (hcall : Callee.Sure bs call) (hb : bs.hold ρ) (hf : l.fs.hold ρ) : (region P bs call keep draw ops l).sure ρ :=
  regionN_sure hcall hb 2 l hf
/-- A region that draws its order. -/
def DrawnSound (P : Program) (bs : Bds) (keep : Bool) : Prop := ∀ (call : Callee), Callee.Sound P bs call → Callee.Sure bs call → ∀ (id : Nat) (ops : Array Oper) (L0 : Nat → Prop) (Γ0 : Ctx) (S0 : St) (w0 : World) (Q : Exit → Act → World → Prop) (l : Leaf) (Γ : Ctx) (a : Act) (w : World),
  bs.hold Γ0.ρ → l.ex = .normal → At L0 Γ0 S0 w0 Γ l a w → (region P bs call keep true ops.toList l).ok Γ0.ρ → Ends L0 Γ0 S0 w0 (region P bs call keep true ops.toList l) Q → (Code.region id ops true).wp P Q a w

/-! ### Facts hold through code -/
theorem Env.lookup_mem {α : Type} {n : Nat} {x : α} : ∀ {l : List (Nat × α)}, lookup n l = some x → (n, x) ∈ l
  | [], h => by simp [lookup] at h
  | (k, y) :: l, h => by
    simp only [lookup] at h
    split at h
    · rename_i hk
      have := Nat.eq_of_beq_eq_true hk
      subst this
      cases h
      simp
    · exact List.mem_cons.2 (.inr (Env.lookup_mem h))
theorem brC_sure {keep : Bool} {fs : Facts} {e : E} {t f : CT} {ρ : Val} (hfs : fs.hold ρ) (h : (if E.T ρ e = true then t else f).sure ρ) : (brC keep fs e t f).sure ρ := by
  have plain : (CT.br fs e t f).sure ρ := by
    refine ⟨hfs, ?_⟩
    by_cases hc : E.T ρ e = true
    · rw [if_pos hc] at h ⊢; exact h
    · rw [if_neg hc] at h ⊢; exact h
  unfold brC
  split
  · split
    · exact plain
    · exact hfs
  · exact plain
theorem toCT_sure {P : Program} {E : Env} {fn : Func} {S : St} {ρ : Val} : ∀ t : Tr, t.sure ρ → (toCT P E fn S t).sure ρ
  | .leaf l, h => by
    unfold toCT endM
    split
    · split
      · trivial
      · exact h
    · trivial
  | .br fs e t f, h => by
    unfold toCT
    apply brC_sure h.1
    have h2 := h.2
    by_cases hc : e.T ρ = true
    · rw [if_pos hc] at h2 ⊢; exact toCT_sure t h2
    · rw [if_neg hc] at h2 ⊢; exact toCT_sure f h2
  | .dead, h => h
  | .fail _, _ => trivial
theorem startL_fs (fn : Func) (args : List MV) (S : St) (fs : Facts) : (startL fn args S fs).fs = fs := by unfold startL; split <;> rfl
/-- Facts hold on all ways of a run. -/
def EvSure (bs : Bds) (e : Code → Leaf → Tr) : Prop := ∀ (c : Code) (l : Leaf) (ρ : Val), bs.hold ρ → l.fs.hold ρ → (e c l).sure ρ
def Env.LoopsSure (E : Env) : Prop := ∀ (e : Code → Leaf → Tr), EvSure E.bs e → ∀ (k : Nat) (l : Leaf) (ρ : Val), E.bs.hold ρ → l.fs.hold ρ → (E.loops k e l).sure ρ
theorem ev_sure {P : Program} {E : Env} (hlo : E.LoopsSure) (hsum : Callee.Sure E.bs E.sum) {ρ : Val} (hb : E.bs.hold ρ) : ∀ (n : Nat) (c : Code) (l : Leaf), l.fs.hold ρ → (ev P E n c l).sure ρ
  | 0, _, _, _ => trivial
  | n + 1, c, l, hf => by
    have ih := fun ρ (hb : E.bs.hold ρ) c l hf => ev_sure (P := P) hlo hsum (ρ := ρ) hb n c l hf
    have hev : EvSure E.bs (ev P E n) := fun c l ρ hb hf => ih ρ hb c l hf
    have hcall : Callee.Sure E.bs (callIn P E (ev P E n)) := fun f args S fs ρ hb hf => by
      unfold callIn
      split
      · split
        · exact toCT_sure _ (ih ρ hb _ _ (by rw [startL_fs]; exact hf))
        · trivial
      · exact hsum f args S fs ρ hb hf
    have ih := ih ρ hb
    unfold ev
    split
    · exact hf
    · exact region_sure hcall hb hf
    · refine Tr.bind_sure (fun l' hl => ?_) _ (ih _ _ hf)
      split
      · exact ih _ _ hl
      · exact hl
    · split
      · exact ih _ _ hf
      · exact ih _ _ hf
      · rename_i e _
        apply brM_sure hf
        cases he : e.T ρ with
        | true =>
          obtain ⟨g, hg, hw⟩ := way_of (bs := E.bs) hb he hf fun g => ev P E n _ { l with fs := g }
          rw [if_pos rfl, hw]; exact ih _ _ hg
        | false =>
          obtain ⟨g, hg, hw⟩ := way_of (bs := E.bs) hb he hf fun g => ev P E n _ { l with fs := g }
          rw [if_neg (by simp), hw]; exact ih _ _ hg
      · trivial
    · refine Tr.bind_sure (fun l' hl => ?_) _ (ih _ _ hf)
      split <;> exact hl
    · refine Tr.bind_sure (fun l' hl => ?_) _ (ih _ _ hf)
      split
      · exact ih _ _ hl
      · exact hl
    · exact hf
    · exact hf
    · exact hlo _ hev _ _ _ hb hf
    · trivial

/-! ### Code -/
/-- Code that bears marks, and the program's own. -/
def Lone : Code → Prop
  | .rangeFunc _ _ _ _ => True | .scope _ => True | .label _ => True | .refuse _ => True | _ => False
inductive Mk (lk : Nat → Code → Prop) : Code → Code → Prop where
  | known {k : Nat} {c : Code} (h : lk k c) : Mk lk (.goto k) c
  | skip : Mk lk .skip .skip
  | region {id : Nat} {ops : Array Oper} {d : Bool} : Mk lk (.region id ops d) (.region id ops d)
  | seq {a b a' b' : Code} (ha : Mk lk a' a) (hb : Mk lk b' b) : Mk lk (.seq a' b') (.seq a b)
  | cond {x : Operand} {a b a' b' : Code} (ha : Mk lk a' a) (hb : Mk lk b' b) : Mk lk (.cond x a' b') (.cond x a b)
  | block {id : Nat} {a a' : Code} (ha : Mk lk a' a) : Mk lk (.block id a') (.block id a)
  | loop {a a' : Code} (ha : Mk lk a' a) : Mk lk (.loop a') (.loop a)
  | exit {id : Nat} : Mk lk (.exit id) (.exit id)
  | ret : Mk lk .ret .ret
  | lone {c : Code} (h : Lone c) : Mk lk c c
  /-- the first round is run -/
  | peel {k : Nat} {a a' : Code} (h : lk k (.loop a)) (ha : Mk lk a' a) : Mk lk (.seq a' (.goto k)) (.loop a)
theorem Mk.refl_goto : ∀ c : Code, Mk (fun k c => c = .goto k) c c
  | .skip => .skip | .region _ _ _ => .region | .seq a b => .seq (refl_goto a) (refl_goto b) | .cond _ a b => .cond (refl_goto a) (refl_goto b)
  | .block _ a => .block (refl_goto a) | .loop a => .loop (refl_goto a) | .exit _ => .exit | .ret => .ret
  | .rangeFunc _ _ _ _ => .lone trivial | .scope _ => .lone trivial | .label _ => .lone trivial | .refuse _ => .lone trivial | .goto _ => .known rfl
/-- A function that is run, and the program's: alike but for marks. -/
structure FnOk (P : Program) (lk : Nat → Code → Prop) (f : Nat) (fn' : Func) : Prop where
  ex : ∃ fn, P.funcs[f]? = some fn ∧ (fn.name == "runtime.NumGoroutine") = false ∧ fn'.ntmps = fn.ntmps ∧ fn'.results = fn.results ∧ ∀ c', fn'.body = some c' → ∃ c, fn.body = some c ∧ Mk lk c' c
theorem FnOk.self {P : Program} {f : Nat} {fn : Func} (h : P.funcs[f]? = some fn) (hn : (fn.name == "runtime.NumGoroutine") = false) : FnOk P (fun k c => c = .goto k) f fn :=
  ⟨fn, h, hn, rfl, rfl, fun c hc => ⟨c, hc, Mk.refl_goto c⟩⟩
/-- Behind a call: what its code's tree tells. -/
def EvOk (P : Program) (bs : Bds) (lk : Nat → Code → Prop) (e : Code → Leaf → Tr) : Prop := ∀ (c' c : Code), Mk lk c' c → ∀ (L0 : Nat → Prop) (Γ0 : Ctx) (S0 : St) (w0 : World) (Q : Exit → Act → World → Prop) (l : Leaf) (Γ : Ctx) (a : Act) (w : World),
  bs.hold Γ0.ρ → l.ex = .normal → At L0 Γ0 S0 w0 Γ l a w → (e c' l).ok Γ0.ρ → Ends L0 Γ0 S0 w0 (e c' l) Q → c.wp P Q a w
/-- One known loop comes to what it is told to come to. -/
def LoopOk (P : Program) (bs : Bds) (c : Code) (k : Leaf → Tr) : Prop := ∀ (L0 : Nat → Prop) (Γ0 : Ctx) (S0 : St) (w0 : World) (Q : Exit → Act → World → Prop) (l : Leaf) (Γ : Ctx) (a : Act) (w : World),
  bs.hold Γ0.ρ → l.ex = .normal → At L0 Γ0 S0 w0 Γ l a w → (k l).ok Γ0.ρ → Ends L0 Γ0 S0 w0 (k l) Q → c.wp P Q a w
/-- .. in so many rounds. -/
def LoopRd (P : Program) (bs : Bds) (c : Code) (k : Leaf → Tr) : Prop := ∀ (L0 : Nat → Prop) (Γ0 : Ctx) (S0 : St) (w0 : World) (Q : Exit → Act → World → Prop) (l : Leaf) (Γ : Ctx) (a : Act) (w : World),
  bs.hold Γ0.ρ → l.ex = .normal → At L0 Γ0 S0 w0 Γ l a w → (k l).ok Γ0.ρ → Ends L0 Γ0 S0 w0 (k l) Q → ∃ n, Code.rounds P c Q n a w
theorem LoopRd.ok {P : Program} {bs : Bds} {c : Code} {k : Leaf → Tr} (h : LoopRd P bs c k) : LoopOk P bs (.loop c) k := fun L0 Γ0 S0 w0 Q l Γ a w h1 h2 h3 h4 h5 => by
  obtain ⟨n, hn⟩ := h L0 Γ0 S0 w0 Q l Γ a w h1 h2 h3 h4 h5
  exact wp_loop_rounds n hn
theorem wp_loop_peel {P : Program} {Q : Exit → Act → World → Prop} {a : Act} {w : World} {c : Code} (h : c.wp P (Exit.then (fun a w => ∃ n, Code.rounds P c Q n a w) Q) a w) : (Code.loop c).wp P Q a w := by
  intro b k cs
  have key : ∀ n a w, Code.rounds P c Q n a w →
      ∃ e a' w', Q e a' w' ∧ Arrives P (lone (b.at a (.code c :: .inLoop c :: k)) cs w) b k cs e a' w' := by
    intro n
    induction n with
    | zero => intro a w h; exact h.elim
    | succ n ih =>
      intro a w h
      obtain ⟨e, a₁, w₁, hq, harr⟩ := h b (.inLoop c :: k) cs
      cases e with
      | normal =>
        obtain ⟨e₂, a₂, w₂, hq₂, harr₂⟩ := ih a₁ w₁ hq
        exact ⟨e₂, a₂, w₂, hq₂, .of_steps (Steps.trans harr (.one step_inLoop)) harr₂⟩
      | exit id => exact ⟨_, a₁, w₁, hq, .pass (x := .inLoop c) rfl (fun _ _ => .inl (by simp)) harr⟩
      | goto l => exact ⟨_, a₁, w₁, hq, .pass (x := .inLoop c) rfl (fun _ _ => .inl (by simp)) harr⟩
      | ret => exact ⟨_, a₁, w₁, hq, .pass (x := .inLoop c) rfl (fun _ _ => .inl (by simp)) harr⟩
      | panic ch => exact ⟨_, a₁, w₁, hq, .pass (x := .inLoop c) rfl (fun _ _ => .inl (by simp)) harr⟩
      | outgrown => exact ⟨_, a₁, w₁, hq, .pass (x := .inLoop c) rfl (fun _ _ => .inl (by simp)) harr⟩
  obtain ⟨e, a₁, w₁, hq, harr⟩ := h b (.inLoop c :: k) cs
  cases e with
  | normal =>
    obtain ⟨n, hn⟩ := hq
    obtain ⟨e₂, a₂, w₂, hq₂, harr₂⟩ := key n a₁ w₁ hn
    exact ⟨e₂, a₂, w₂, hq₂, .of_steps (.one step_loop) (.of_steps (Steps.trans harr (.one step_inLoop)) harr₂)⟩
  | exit id => exact ⟨_, a₁, w₁, hq, .of_steps (.one step_loop) (.pass (x := .inLoop c) rfl (fun _ _ => .inl (by simp)) harr)⟩
  | goto l => exact ⟨_, a₁, w₁, hq, .of_steps (.one step_loop) (.pass (x := .inLoop c) rfl (fun _ _ => .inl (by simp)) harr)⟩
  | ret => exact ⟨_, a₁, w₁, hq, .of_steps (.one step_loop) (.pass (x := .inLoop c) rfl (fun _ _ => .inl (by simp)) harr)⟩
  | panic ch => exact ⟨_, a₁, w₁, hq, .of_steps (.one step_loop) (.pass (x := .inLoop c) rfl (fun _ _ => .inl (by simp)) harr)⟩
  | outgrown => exact ⟨_, a₁, w₁, hq, .of_steps (b := b) (k := k) (cs := cs) (e := .outgrown) (.one step_loop) (.pass (x := .inLoop c) rfl (fun _ _ => .inl (by simp)) harr)⟩
structure Env.LoopsOk (P : Program) (E : Env) : Prop where
  sure : E.LoopsSure
  rd : ∀ (e : Code → Leaf → Tr), EvOk P E.bs E.lk e → EvSure E.bs e → ∀ (k : Nat) (c : Code), E.lk k (.loop c) → LoopRd P E.bs c (E.loops k e)
  wp : ∀ (e : Code → Leaf → Tr), EvOk P E.bs E.lk e → EvSure E.bs e → ∀ (k : Nat) (c : Code), E.lk k c → LoopOk P E.bs c (E.loops k e)
theorem loopsOk_none {P : Program} {E : Env} (h : E.loops = fun _ _ _ => .fail 144) : E.LoopsOk P :=
  ⟨fun e _ k l ρ _ _ => by rw [h]; trivial, fun e _ _ k c _ L0 Γ0 S0 w0 Q l Γ a w _ _ _ hok => by rw [h] at hok; exact hok.elim, fun e _ _ k c _ L0 Γ0 S0 w0 Q l Γ a w _ _ _ hok => by rw [h] at hok; exact hok.elim⟩
/-- The functions that are run are those of the program. -/
structure Env.Ok (P : Program) (E : Env) : Prop where
  fns : ∀ p ∈ E.fns, FnOk P E.lk p.1 p.2
  loops : E.LoopsOk P
def BodyOk (P : Program) (E : Env) (n : Nat) : Prop := EvOk P E.bs E.lk (ev P E n)
def RoundsOk (P : Program) (E : Env) (n : Nat) : Prop := ∀ (c' c : Code), Mk E.lk c' c → ∀ (L0 : Nat → Prop) (Γ0 : Ctx) (S0 : St) (w0 : World) (Q : Exit → Act → World → Prop) (l : Leaf) (Γ : Ctx) (a : Act) (w : World),
  E.bs.hold Γ0.ρ → l.ex = .normal → At L0 Γ0 S0 w0 Γ l a w → (ev P E n (.loop c') l).ok Γ0.ρ → Ends L0 Γ0 S0 w0 (ev P E n (.loop c') l) Q → Code.rounds P c Q n a w
def GotoOk (P : Program) (E : Env) (n : Nat) : Prop := ∀ (k : Nat) (c : Code), E.lk k (.loop c) → LoopRd P E.bs c (ev P E n (.goto k))
theorem Ends.bind {L0 : Nat → Prop} {Γ0 : Ctx} {S0 : St} {w0 : World} {t : Tr} {f : Leaf → Tr} {Q Q' : Exit → Act → World → Prop}
    (hok : (t.bind f).ok Γ0.ρ) (hend : Ends L0 Γ0 S0 w0 (t.bind f) Q)
    (h : ∀ l Γ a w, At L0 Γ0 S0 w0 Γ l a w → (f l).ok Γ0.ρ → Ends L0 Γ0 S0 w0 (f l) Q → Q' l.ex.out a w) : t.ok Γ0.ρ ∧ Ends L0 Γ0 S0 w0 t Q' := by
  obtain ⟨h1, h2⟩ := Tr.bind_ok Γ0.ρ f t hok
  refine ⟨h1, fun l Γ a w hl hat => h l Γ a w hat (h2 l hl) fun l' Γ' a' w' hl' hat' => hend l' Γ' a' w' ?_ hat'⟩
  rw [Tr.bind_at, hl]
  exact hl'
theorem Ex.out_normal {x : Ex} (h : x ≠ .normal) (K : Act → World → Prop) (Q : Exit → Act → World → Prop) (a : Act) (w : World) : Exit.then K Q x.out a w = Q x.out a w := by
  cases x <;> simp [Ex.out, Exit.then] at h ⊢
theorem ends_leaf {L0 : Nat → Prop} {Γ0 Γ : Ctx} {S0 : St} {w0 w : World} {l : Leaf} {a : Act} {Q : Exit → Act → World → Prop} (h : Ends L0 Γ0 S0 w0 (.leaf l) Q) (hat : At L0 Γ0 S0 w0 Γ l a w) : Q l.ex.out a w := h l Γ a w rfl hat
theorem step_code {P : Program} {E : Env} {n : Nat} (hlo : E.LoopsOk P) (hcall : Callee.Sound P E.bs (callIn P E (ev P E n))) (hsum : Callee.Sure E.bs E.sum) (hdraw : DrawnSound P E.bs E.keep) (ih : BodyOk P E n) (ihr : RoundsOk P E n) (ihg : GotoOk P E n) : BodyOk P E (n + 1) := by
  intro c' c hmk L0 Γ0 S0 w0 Q l Γ a w hb hex hat hok hend
  have hρ := hat.far.ρ
  have hbΓ : E.bs.hold Γ.ρ := by rw [hρ]; exact hb
  have hev : EvSure E.bs (ev P E n) := fun c l ρ hb hf => ev_sure hlo.sure hsum hb n c l hf
  have hsure : Callee.Sure E.bs (callIn P E (ev P E n)) := fun f args S fs ρ hb hf => by
    unfold callIn
    split
    · split
      · exact toCT_sure _ (ev_sure hlo.sure hsum hb n _ _ (by rw [startL_fs]; exact hf))
      · trivial
    · exact hsum f args S fs ρ hb hf
  cases hmk with
  | known hk => exact hlo.wp _ ih hev _ _ hk L0 Γ0 S0 w0 Q l Γ a w hb hex hat hok hend
  | skip =>
    have := ends_leaf hend hat
    rw [hex] at this
    exact wp_skip this
  | @region id ops draw =>
    cases draw with
    | true => exact hdraw _ hcall hsure id ops L0 Γ0 S0 w0 Q l Γ a w hb hex hat hok hend
    | false =>
      refine wp_region_list ?_
      have := runOps_sound (keep := E.keep) (all := ops.toList) hcall hsure hb 500 ops.toList l [] Γ a w hex hat hok hend
      simpa using this
  | @seq x y x' y' hx hy =>
    unfold ev at hok hend
    simp only at hok hend
    obtain ⟨h1, h2⟩ := Ends.bind (Q' := Exit.then (y.wp P Q) Q) hok hend fun l' Γ' a' w' hat' hok' hend' => by
      cases hx : l'.ex with
      | normal => simp only [hx] at hok' hend'; exact ih y' y hy L0 Γ0 S0 w0 Q l' Γ' a' w' hb hx hat' hok' hend'
      | exit id => simp only [hx] at hend'; have := ends_leaf hend' hat'; rw [hx] at this; exact this
      | ret => simp only [hx] at hend'; have := ends_leaf hend' hat'; rw [hx] at this; exact this
    exact wp_seq (ih x' x hx L0 Γ0 S0 w0 _ l Γ a w hb hex hat h1 h2)
  | @cond x t f t' f' ht hf =>
    unfold ev at hok hend
    simp only at hok hend
    have hx := evO_rel hat.fr x
    split at hok
    · rename_i hc
      simp only [hc] at hend
      exact wp_cond (condM_inl hc hx.1 hbΓ hat.fs) (ih t' t ht L0 Γ0 S0 w0 Q l Γ a w hb hex hat hok hend)
    · rename_i hc
      simp only [hc] at hend
      exact wp_cond (condM_inl hc hx.1 hbΓ hat.fs) (ih f' f hf L0 Γ0 S0 w0 Q l Γ a w hb hex hat hok hend)
    · rename_i e hc
      simp only [hc] at hend
      refine wp_cond (condM_inr hc hx.1 hbΓ hat.fs) ?_
      have hl := brM_leads (keep := E.keep) (e := e) (t := way E.bs l.fs e true fun g => ev P E n t' { l with fs := g }) (f := way E.bs l.fs e false fun g => ev P E n f' { l with fs := g }) (ρ := Γ0.ρ) rfl (by rw [← hρ]; exact hat.fs)
      have hok' := hl.1 hok
      have hend' := Ends.of_leads hl hend
      rw [hρ]
      have hfs0 : l.fs.hold Γ0.ρ := by rw [← hρ]; exact hat.fs
      cases he : e.T Γ0.ρ with
      | true =>
        rw [he, if_pos rfl] at hok' hend'
        obtain ⟨g, hg, hw⟩ := way_of (bs := E.bs) hb he hfs0 fun g => ev P E n t' { l with fs := g }
        rw [hw] at hok' hend'
        exact ih t' t ht L0 Γ0 S0 w0 Q _ Γ a w hb (by exact hex) (At.facts hat (by rw [hρ]; exact hg)) hok' hend'
      | false =>
        rw [he, if_neg (by simp)] at hok' hend'
        obtain ⟨g, hg, hw⟩ := way_of (bs := E.bs) hb he hfs0 fun g => ev P E n f' { l with fs := g }
        rw [hw] at hok' hend'
        exact ih f' f hf L0 Γ0 S0 w0 Q _ Γ a w hb (by exact hex) (At.facts hat (by rw [hρ]; exact hg)) hok' hend'
    · exact hok.elim
  | @block id c c' hc =>
    unfold ev at hok hend
    simp only at hok hend
    obtain ⟨h1, h2⟩ := Ends.bind (Q' := Exit.inBlock id Q) hok hend fun l' Γ' a' w' hat' hok' hend' => by
      by_cases hx : l'.ex = .exit id
      · rw [if_pos hx] at hend'
        have := ends_leaf (l := { l' with ex := .normal }) hend' ⟨hat'.lt, hat'.fr, hat'.S, hat'.fs, hat'.far⟩
        rw [hx]
        simp only [Ex.out, Exit.inBlock, if_true]
        exact this
      · rw [if_neg hx] at hend'
        have := ends_leaf hend' hat'
        cases hx2 : l'.ex with
        | normal => rw [hx2] at this; exact this
        | ret => rw [hx2] at this; exact this
        | exit id' =>
          rw [hx2] at this hx
          simp only [Ex.out, Exit.inBlock]
          rw [if_neg (fun h => hx (by rw [h]))]
          exact this
    exact wp_block (ih c' c hc L0 Γ0 S0 w0 _ l Γ a w hb hex hat h1 h2)
  | @loop c c' hc =>
    unfold ev at hok hend
    simp only at hok hend
    obtain ⟨h1, h2⟩ := Ends.bind (Q' := Exit.then (Code.rounds P c Q n) Q) hok hend fun l' Γ' a' w' hat' hok' hend' => by
      cases hx : l'.ex with
      | normal => simp only [hx] at hok' hend'; exact ihr c' c hc L0 Γ0 S0 w0 Q l' Γ' a' w' hb hx hat' hok' hend'
      | exit id => simp only [hx] at hend'; have := ends_leaf hend' hat'; rw [hx] at this; exact this
      | ret => simp only [hx] at hend'; have := ends_leaf hend' hat'; rw [hx] at this; exact this
    exact wp_loop_rounds (n + 1) (ih c' c hc L0 Γ0 S0 w0 _ l Γ a w hb hex hat h1 h2)
  | @peel k c c' hk hc =>
    unfold ev at hok hend
    simp only at hok hend
    obtain ⟨h1, h2⟩ := Ends.bind (Q' := Exit.then (fun a w => ∃ n, Code.rounds P c Q n a w) Q) hok hend fun l' Γ' a' w' hat' hok' hend' => by
      cases hx : l'.ex with
      | normal =>
        simp only [hx] at hok' hend'
        exact ihg k c hk L0 Γ0 S0 w0 Q l' Γ' a' w' hb hx hat' hok' hend'
      | exit id => simp only [hx] at hend'; have := ends_leaf hend' hat'; rw [hx] at this; exact this
      | ret => simp only [hx] at hend'; have := ends_leaf hend' hat'; rw [hx] at this; exact this
    exact wp_loop_peel (ih c' c hc L0 Γ0 S0 w0 _ l Γ a w hb hex hat h1 h2)
  | @exit id => exact wp_exit (ends_leaf (l := { l with ex := .exit id }) hend ⟨hat.lt, hat.fr, hat.S, hat.fs, hat.far⟩)
  | ret => exact wp_ret (ends_leaf (l := { l with ex := .ret }) hend ⟨hat.lt, hat.fr, hat.S, hat.fs, hat.far⟩)
  | lone h =>
    unfold ev at hok
    split at hok <;> first | exact h.elim | exact hok.elim
theorem step_goto {P : Program} {E : Env} {n : Nat} (hlo : E.LoopsOk P) (hsum : Callee.Sure E.bs E.sum) (ih : BodyOk P E n) : GotoOk P E (n + 1) := fun k c hk L0 Γ0 S0 w0 Q l Γ a w hb hex hat hok hend => by
  unfold ev at hok hend
  exact hlo.rd _ ih (fun c l ρ hb hf => ev_sure hlo.sure hsum hb n c l hf) k c hk L0 Γ0 S0 w0 Q l Γ a w hb hex hat hok hend
theorem step_rounds {P : Program} {E : Env} {n : Nat} (ih : BodyOk P E n) (ihr : RoundsOk P E n) : RoundsOk P E (n + 1) := by
  intro c' c hc L0 Γ0 S0 w0 Q l Γ a w hb hex hat hok hend
  unfold ev at hok hend
  simp only at hok hend
  obtain ⟨h1, h2⟩ := Ends.bind (Q' := Exit.then (Code.rounds P c Q n) Q) hok hend fun l' Γ' a' w' hat' hok' hend' => by
    cases hx : l'.ex with
    | normal => simp only [hx] at hok' hend'; exact ihr c' c hc L0 Γ0 S0 w0 Q l' Γ' a' w' hb hx hat' hok' hend'
    | exit id => simp only [hx] at hend'; have := ends_leaf hend' hat'; rw [hx] at this; exact this
    | ret => simp only [hx] at hend'; have := ends_leaf hend' hat'; rw [hx] at this; exact this
  exact ih c' c hc L0 Γ0 S0 w0 _ l Γ a w hb hex hat h1 h2
end Sx
end Go.Proofs.Ytigblagodlfedaa
