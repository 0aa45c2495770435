/- The symbolic run: regions in the order of their text. -/
import Derived.Test.YtigblagodlfedaaSxl
import Derived.Tactics
namespace Go.Proofs.Ytigblagodlfedaa
namespace Sx
open Go.RowKit

/-- One operation, whatever it is: the rest is done behind it. -/
def OpOk (P : Program) (T : CT) (L : Nat → Prop) (Γ : Ctx) (S : St) (o : Oper) (a : Act) (w : World) : Prop :=
  ∀ (K : Act → World → Prop) (Q : Exit → Act → World → Prop),
    (∀ v Γ' r g w', T.at Γ.ρ = some (r, g) → r.mv.rel Γ' v → Step Γ Γ' L S r w w' → K (a.put o.dst v) w') → o.wp P a w K Q
theorem opM_call {P : Program} {bs : Bds} {fs : Facts} {ev : Operand → MV} {S : St} {f : Operand} {args : Array Operand} {tys : Array Nat} {r : Res} : opM P bs fs ev S (.call ⟨.value f, args, tys⟩) ≠ .ok r := by
  simp [opM]
theorem R.ct_leaf {fs : Facts} {q : R} {t : CT} (h : q.ct fs = t) : (∃ r, q = .ok r ∧ t = .leaf r fs) ∨ ∃ s, t = .fail s := by
  subst h
  cases q with
  | ok r => exact .inl ⟨r, rfl, rfl⟩
  | need e => exact .inr ⟨_, rfl⟩
  | fail s => exact .inr ⟨s, rfl⟩
theorem callFunc_run {P : Program} {f : Nat} {fn : Func} (h : P.funcs[f]? = some fn) (hn : (fn.name == "runtime.NumGoroutine") = false) (hb : fn.body.isNone = false) (vs : Array Value) (w : World) :
    (callFunc f vs).run P w = .ok (.enter f vs) w := by
  simp only [callFunc, Sem.run_bind, run_program, Result.andThen_ok, h, hn, hb, Bool.false_eq_true, if_false, Sem.run_pure]
theorem caps_args (Γ : Ctx) {L : Nat → Prop} {l : List (Nat × Nat)} (h : ∀ p ∈ l, L p.1) : ArgsRel Γ L (l.map fun p => MV.c (.ptr p.1 (.lit p.2))) (l.map fun p => Value.pointer (some ⟨Γ.id p.1, p.2, none⟩)) := by
  induction l with
  | nil => exact .nil
  | cons p l ih =>
    refine .cons ⟨?_, h p (by simp)⟩ (ih fun q hq => h q (by simp [hq]))
    simp only [MV.rel, MV.den, MC.den, E.I, Int.toNat_natCast]
theorem stepM_sound {P : Program} {bs : Bds} {call : Callee} {fs : Facts} {fr : Fr} {S : St} {o : Oper} {T : CT} {Γ : Ctx} {L : Nat → Prop} {N : Nat} {a : Act} {w : World}
    (hcall : Callee.Sound P bs call) (h : stepM P bs call fs fr S o.op = .ct T) (hok : T.ok Γ.ρ) (hfr : Fr.rel Γ L N fr a) (hS : S.rel Γ L w) (hL : ∀ j, L j → j < S.n) (hb : bs.hold Γ.ρ) (hf : fs.hold Γ.ρ) : OpOk P T L Γ S o a w := by
  intro K Q hK
  have he := fun x => evO_rel hfr x
  rw [stepM_eq] at h
  unfold stepM0 at h
  split at h
  · rename_i f args tys hop
    split at h
    · rename_i g caps hx
      simp only [SR.ct.injEq] at h
      subst h
      have hv := (he f).1
      have ho := (he f).2
      rw [hx] at hv ho
      have hv := MV.rel_c hv
      simp only [MC.den] at hv
      have hargs : ArgsRel Γ L (args.toList.map (evO fr) ++ caps.map fun p => MV.c (.ptr p.1 (.lit p.2))) ((args.map a.eval ++ (caps.map fun p => Value.pointer (some ⟨Γ.id p.1, p.2, none⟩)).toArray)).toList := by
        simp only [Array.toList_append, Array.toList_map]
        exact Both.append (Both.map_map (R := fun (m : MV) v => m.rel Γ v ∧ m.on L) he args.toList) (caps_args Γ ho)
      obtain ⟨⟨fn, h1, h2, h3⟩, hc⟩ := hcall L g _ _ S fs Γ w hargs hS hL hb hf hok
      unfold Oper.wp
      have hrun : (execOp a.eval o).run P w = .ok (.enter g (args.map a.eval ++ (caps.map fun p => Value.pointer (some ⟨Γ.id p.1, p.2, none⟩)).toArray)) w := by
        unfold execOp
        simp only [hop, resolve, Deferred.ofValue, hv, Sem.run_bind, Sem.run_pure, Result.andThen_ok, invoke, Array.empty_append]
        exact callFunc_run h1 h2 h3 _ w
      rw [hrun, Oper.upon_enter]
      refine hc.mono fun e w' hh => ?_
      obtain ⟨v, Γ', r, g', rfl, h4, h5, h6⟩ := hh
      exact hK v Γ' r g' w' h4 h5 h6
    · simp only [SR.ct.injEq] at h
      subst h
      exact hok.elim
  · split at h
    · cases h
    · simp only [SR.ct.injEq] at h
      rcases R.ct_leaf h with ⟨r, hr, rfl⟩ | ⟨s, rfl⟩
      · obtain ⟨Γ', w', nx, v, h1, h2, h3, h4⟩ := opM_sound (o := o) hr he hS hL hb hf
        unfold Oper.wp
        rw [h1]
        rcases h2 with rfl | ⟨rfl, rfl⟩
        · rw [Oper.upon_value]; exact hK v Γ' r fs w' rfl h3 h4
        · rw [Oper.upon_skip]; exact hK undef Γ' r fs w' rfl h3 h4
      · exact hok.elim
theorem stepM_sure {P : Program} {bs : Bds} {call : Callee} {fs : Facts} {fr : Fr} {S : St} {op : Op} {T : CT} {ρ : Val} (hcall : Callee.Sure bs call) (h : stepM P bs call fs fr S op = .ct T) (hb : bs.hold ρ) (hf : fs.hold ρ) : T.sure ρ := by
  rw [stepM_eq] at h
  unfold stepM0 at h
  split at h
  · split at h
    · simp only [SR.ct.injEq] at h; subst h; exact hcall _ _ _ _ ρ hb hf
    · simp only [SR.ct.injEq] at h; subst h; trivial
  · split at h
    · cases h
    · simp only [SR.ct.injEq] at h
      rcases R.ct_leaf h with ⟨r, _, rfl⟩ | ⟨s, rfl⟩
      · exact hf
      · trivial
theorem fits_spec {l : Leaf} {o : Oper} {r : Res} (h : fits l o r = true) : (∀ d, o.dst = some d → d < l.N) ∧ l.S.n + r.new.length ≤ 4000 := by
  unfold fits at h
  rw [Bool.and_eq_true] at h
  refine ⟨fun d hd => ?_, Nat.le_of_ble_eq_true h.2⟩
  have := h.1
  simp only [hd] at this
  rw [Nat.blt_eq] at this
  exact this
/-- Facts hold through the operations of a region. -/
theorem runOps_sure {P : Program} {bs : Bds} {call : Callee} {keep : Bool} {all : List Oper} {fin : Leaf → List Log → Tr} {ρ : Val} (hcall : Callee.Sure bs call) (hb : bs.hold ρ) (hfin : ∀ l lg, l.fs.hold ρ → (fin l lg).sure ρ) :
    ∀ (n : Nat) (ops : List Oper) (l : Leaf) (lg : List Log), l.fs.hold ρ → (runOps P bs call keep all fin n ops l lg).sure ρ
  | 0, _, _, _, _ => trivial
  | n + 1, ops, l, lg, hf => by
    unfold runOps
    split
    · exact hfin l lg hf
    · split
      · split
        · rename_i t ht
          refine CT.bind_sure (fun r g hg => ?_) t (stepM_sure hcall ht hb hf)
          split
          · trivial
          · exact runOps_sure hcall hb hfin n _ _ _ hg
        · exact fork_sure hb hf fun g hg => runOps_sure hcall hb hfin n _ _ _ hg
      · split
        · trivial
        · exact runOps_sure hcall hb hfin n _ _ _ hf
      · exact fork_sure hb hf fun g hg => runOps_sure hcall hb hfin n _ _ _ hg
      · trivial
/-- What is to be shown of code: whatever holds at the ends of the tree holds behind it. -/
def Ex.out : Ex → Exit
  | .normal => .normal | .exit id => .exit id | .ret => .ret
def Ends (L0 : Nat → Prop) (Γ0 : Ctx) (S0 : St) (w0 : World) (t : Tr) (Q : Exit → Act → World → Prop) : Prop :=
  ∀ l Γ a w, t.at Γ0.ρ = some l → At L0 Γ0 S0 w0 Γ l a w → Q l.ex.out a w
theorem Ends.of_leads {L0 : Nat → Prop} {Γ0 : Ctx} {S0 : St} {w0 : World} {t t' : Tr} {Q : Exit → Act → World → Prop} (h : Leads Γ0.ρ t t') (he : Ends L0 Γ0 S0 w0 t' Q) : Ends L0 Γ0 S0 w0 t Q := fun l Γ a w hl hat => by
  obtain ⟨l', h1, h2, _, h3⟩ := h.2 l hl
  rw [← h2]
  exact he l' Γ a w h1 (h3 _ _ _ _ _ _ _ hat.far.ρ hat)
theorem runOps_sound {P : Program} {bs : Bds} {call : Callee} {keep : Bool} {all : List Oper} {L0 : Nat → Prop} {Γ0 : Ctx} {S0 : St} {w0 : World} {Q : Exit → Act → World → Prop}
    (hcall : Callee.Sound P bs call) (hsure : Callee.Sure bs call) (hb : bs.hold Γ0.ρ) :
    ∀ (n : Nat) (ops : List Oper) (l : Leaf) (lg : List Log) (Γ : Ctx) (a : Act) (w : World), l.ex = .normal → At L0 Γ0 S0 w0 Γ l a w →
      (runOps P bs call keep all (fun l _ => .leaf l) n ops l lg).ok Γ0.ρ → Ends L0 Γ0 S0 w0 (runOps P bs call keep all (fun l _ => .leaf l) n ops l lg) Q → wpList P all.toArray Q ops a w
  | 0, _, _, _, _, _, _, _, _, hok, _ => hok.elim
  | n + 1, ops, l, lg, Γ, a, w, hex, hat, hok, hend => by
    have hρ := hat.far.ρ
    have hbΓ : bs.hold Γ.ρ := by rw [hρ]; exact hb
    unfold runOps at hok hend
    split at hok
    · have := hend l Γ a w rfl hat
      rw [hex] at this
      exact this
    · rename_i o rest
      simp only at hend
      split at hok
      · rename_i hw
        simp only [hw] at hend
        have hwant := wantM_inl hw hat.fr.rel hbΓ hat.fs
        split at hok
        · rename_i t ht
          simp only [ht] at hend
          have hts := stepM_sure hsure ht hbΓ hat.fs
          rw [hρ] at hts
          have hbl := CT.bind_leads (keep := keep) (f := fun r g => match fits l o r with
            | false => Tr.fail 113
            | true => runOps P bs call keep all (fun l _ => .leaf l) n rest { l with fr := putM l.fr o.dst r.mv, S := l.S.app r, fs := g, d := r.upd.map (·.1) ++ l.d } (⟨true, l.S.n, r, l.fr, l.S, l.fs⟩ :: lg)) t hts
          have hop := stepM_sound hcall ht (by rw [hρ]; exact hbl.1 hok) hat.fr hat.S hat.bound hbΓ hat.fs
          simp only [wpList, hwant, if_true]
          refine .inl (hop _ _ fun v Γ' r g w' h1 h2 h3 => ?_)
          rw [hρ] at h1
          have hl := hbl.2 r g h1
          have hok' := hl.1 hok
          have hend' := Ends.of_leads hl hend
          have hg : g.hold Γ.ρ := by
            rw [hρ]
            have : ∀ (t : CT), t.sure Γ0.ρ → t.at Γ0.ρ = some (r, g) → g.hold Γ0.ρ := fun t => by
              induction t with
              | leaf r' g' => intro h h'; simp only [CT.at, Option.some.injEq, Prod.mk.injEq] at h'; rw [← h'.2]; exact h
              | br fs e t u iht ihu =>
                intro h h'
                have h2 := h.2
                simp only [CT.at] at h'
                by_cases hc : E.T Γ0.ρ e = true
                · rw [if_pos hc] at h2 h'; exact iht h2 h'
                · rw [if_neg hc] at h2 h'; exact ihu h2 h'
              | dead => intro _ h'; simp [CT.at] at h'
              | fail s => intro _ h'; simp [CT.at] at h'
            exact this t hts h1
          cases hfit : fits l o r with
          | false => simp only [hfit] at hok'; exact hok'.elim
          | true =>
            simp only [hfit] at hok' hend'
            obtain ⟨hd, hn⟩ := fits_spec hfit
            exact runOps_sound hcall hsure hb n rest _ _ Γ' _ w' (by exact hex) (At.step hat h3 h2 hg hd hn) hok' hend'
        · rename_i e ht
          simp only [ht] at hend
          obtain ⟨g, hg, hl⟩ := fork_leads (keep := keep) (e := e) hbΓ hat.fs (fun g => runOps P bs call keep all (fun l _ => .leaf l) n (o :: rest) { l with fs := g } lg)
          rw [hρ] at hl
          exact runOps_sound hcall hsure hb n (o :: rest) _ lg Γ a w (by exact hex) (At.facts hat hg) (hl.1 hok) (Ends.of_leads hl hend)
      · rename_i hw
        simp only [hw] at hend
        have hwant := wantM_inl hw hat.fr.rel hbΓ hat.fs
        cases hfit : fits l o { mv := .und } with
        | false => simp only [hfit] at hok; exact hok.elim
        | true =>
          simp only [hfit] at hok hend
          obtain ⟨hd, _⟩ := fits_spec hfit
          simp only [wpList, hwant, Bool.false_eq_true, if_false]
          exact runOps_sound hcall hsure hb n rest _ _ Γ _ w (by exact hex) (At.skip hat hd) hok hend
      · rename_i e hw
        simp only [hw] at hend
        obtain ⟨g, hg, hl⟩ := fork_leads (keep := keep) (e := e) hbΓ hat.fs (fun g => runOps P bs call keep all (fun l _ => .leaf l) n (o :: rest) { l with fs := g } lg)
        rw [hρ] at hl
        exact runOps_sound hcall hsure hb n (o :: rest) _ lg Γ a w (by exact hex) (At.facts hat hg) (hl.1 hok) (Ends.of_leads hl hend)
      · exact hok.elim
end Sx
end Go.Proofs.Ytigblagodlfedaa
