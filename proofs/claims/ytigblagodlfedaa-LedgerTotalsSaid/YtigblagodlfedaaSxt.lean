/- The symbolic run: regions that draw their order, put together. -/
import Derived.Test.YtigblagodlfedaaSxs
namespace Go.Proofs.Ytigblagodlfedaa
namespace Sx
open Go.RowKit

section
variable {ops : List Oper} {lg : List Log} {l l' : Leaf} {d : List Nat} {L0 : Nat → Prop} {Γ0 Γ Γ' : Ctx} {S0 : St} {w0 w w' : World} {X X' : Nat → Bool} {a : Act}
theorem LX.mono (hX : ∀ i, X i = true → X' i = true) {L : Nat → Prop} {x : Nat} (h : LX L lg X x) : LX L lg X' x :=
  h.imp (fun h => h) fun ⟨i, g, h1, h2, h3⟩ => ⟨i, g, h1, hX i h2, h3⟩
/-- The state as one operation sees it. -/
theorem DI.view (tr : Trace ops l lg l') (hN : l.N ≤ 4000) (hap : ∀ (i k : Nat) (oi ok : Oper) (t : Nat), ops[i]? = some oi → ops[k]? = some ok → oi.dst = some t → ok.dst = some t → i = k) (h : DI ops lg l d L0 Γ0 S0 w0 X Γ a w) {j : Nat} {o : Oper} {g : Log} (ho : ops[j]? = some o) (hgj : lg[j]? = some g) (hj : X j = false) (hr : ∀ e ∈ o.after, Region.binds .any e = true → X e.on = true) :
    Fr.rel Γ (fun x => LX (Sc L0 S0.n l.S.n) lg X x ∧ x < g.n) l.N (viewFr (beforeM ops) j ops lg 0 l.fr) a ∧
    (viewS l.S lg (beforeM ops) j g.n 0 {}).rel Γ (fun x => LX (Sc L0 S0.n l.S.n) lg X x ∧ x < g.n) w ∧ (viewS l.S lg (beforeM ops) j g.n 0 {}).n = g.n ∧
    (∀ x, ¬ ((viewS l.S lg (beforeM ops) j g.n 0 {}).get x).Gone → (viewS l.S lg (beforeM ops) j g.n 0 {}).get x = cur l.S lg X x ∧ (turnersOf x lg 0).length ≤ 1 ∧ x < g.n) := by
  have hah : ∀ i, ahead (beforeM ops) j i = true → X i = true := fun i hi => ahead_in h.closed ho hr hi
  have hst := (tr.n.2.1 j g hgj)
  have hgn := hst.1
  have hg4 : g.n ≤ 4000 := by have := hst.2.2; unfold Log.stop at this; omega
  obtain ⟨hVn, hVg⟩ := viewS_get (S0 := l.S) (lg := lg) (b := beforeM ops) (j := j) (k := g.n) hg4 (by omega) h.sgone
  have hget : ∀ x, ¬ ((viewS l.S lg (beforeM ops) j g.n 0 {}).get x).Gone → (viewS l.S lg (beforeM ops) j g.n 0 {}).get x = cur l.S lg X x ∧ (turnersOf x lg 0).length ≤ 1 ∧ x < g.n := fun x hx => by
    rw [hVg] at hx ⊢
    by_cases hxg : 0 ≤ x ∧ x < g.n
    · rw [if_pos hxg] at hx ⊢
      obtain ⟨h1, h2⟩ := viewB_cur tr h.closed ho hj hr hx
      exact ⟨h1, h2, hxg.2⟩
    · rw [if_neg hxg] at hx
      exact absurd rfl hx
  have hdst : ∀ (i : Nat) (o : Oper) (d : Nat), ops[i]? = some o → o.dst = some d → d < 4095 := fun i o d h1 h2 => by have := tr.dst i o d h1 h2; omega
  have hno : ∀ (i : Nat) (oi : Oper), ops[i]? = some oi → (ahead (beforeM ops) (0 + i) j = true ∨ 0 + i = j) → X i = false := fun i oi hoi hi => by
    rw [Nat.zero_add] at hi
    rcases hi with hi | rfl
    · cases hXi : X i with
      | false => rfl
      | true =>
        have := ahead_in h.closed hoi (h.closed i oi hoi hXi) hi
        rw [hj] at this; cases this
    · exact hj
  refine ⟨⟨h.defers, h.size, hN, fun t => ?_, fun t => ?_⟩, ⟨fun x => ?_, fun x => ?_, fun x hx => ?_, fun x y hx hy hxy => ?_⟩, hVn, hget⟩
  · rcases viewFr_get (b := beforeM ops) (j := j) (t := t) (k := 0) (fr := l.fr) hdst tr.length with ⟨h1, h2⟩ | ⟨i, o', q, h1, h2, h3, h4⟩ | ⟨i, o', h1, h3, h4, h5⟩
    · rw [h2]; exact h.slot0 t fun i o ho _ => h1 i o ho
    · rw [h4, Nat.zero_add]
      split
      · rename_i hi; exact h.slot1 i o' q t h1 h2 (hah i hi) h3
      · trivial
    · rw [h5]
      refine h.slot0 t fun k ok hok hXk hdk => ?_
      have := hap k i ok o' t hok h1 hdk h3
      subst this
      rw [hno _ _ h1 h4] at hXk; cases hXk
  · rcases viewFr_get (b := beforeM ops) (j := j) (t := t) (k := 0) (fr := l.fr) hdst tr.length with ⟨h1, h2⟩ | ⟨i, o', q, h1, h2, h3, h4⟩ | ⟨i, o', h1, h3, h4, h5⟩
    rotate_right
    · rw [h5]
      exact MV.on_mono (fun y hy => ⟨.inl hy, by have := Sc.lt h.lt h.n y hy; omega⟩) (h.fron t)
    · rw [h2]
      exact MV.on_mono (fun y hy => ⟨.inl hy, by have := Sc.lt h.lt h.n y hy; omega⟩) (h.fron t)
    · rw [h4, Nat.zero_add]
      split
      · rename_i hi
        have hlt := tr.n.2.2.1 i j q g h2 hgj (ahead_lt hi)
        exact MV.on_mono (fun y hy => ⟨hy.1, by omega⟩) (h.made i q h2 (hah i hi)).1
      · trivial
  · by_cases hx : ((viewS l.S lg (beforeM ops) j g.n 0 {}).get x).Gone
    · rw [hx]; trivial
    · rw [(hget x hx).1]; exact h.br.rel x
  · rw [hVg]
    split
    · exact viewB_on tr h ho hgj hr x
    · trivial
  · obtain ⟨h1, _, h3⟩ := hget x hx
    rw [h1] at hx
    exact ⟨h.br.live x hx, h3⟩
  · have h1 := (hget x hx).1
    have h2 := (hget y hy).1
    rw [h1] at hx; rw [h2] at hy
    exact h.br.inj x y hx hy hxy
/-- One operation more is done. -/
theorem DI.next (tr : Trace ops l lg l') (hN : l.N ≤ 4000) (hd : ∀ (i : Nat) (g : Log), lg[i]? = some g → ∀ p ∈ g.r.upd, p.1 ∈ d) (hap : ∀ (i k : Nat) (oi ok : Oper) (t : Nat), ops[i]? = some oi → ops[k]? = some ok → oi.dst = some t → ok.dst = some t → i = k)
    (h : DI ops lg l d L0 Γ0 S0 w0 X Γ a w) {j : Nat} {o : Oper} {g : Log} (ho : ops[j]? = some o) (hgj : lg[j]? = some g) (hj : X j = false) (hr : ∀ e ∈ o.after, Region.binds .any e = true → X e.on = true)
    (hX' : ∀ i, X' i = (X i || decide (i = j))) {v : Value} (hv : g.r.mv.rel Γ' v) (hs : Step Γ Γ' (fun x => LX (Sc L0 S0.n l.S.n) lg X x ∧ x < g.n) (viewS l.S lg (beforeM ops) j g.n 0 {}) g.r w w') :
    DI ops lg l d L0 Γ0 S0 w0 X' Γ' (a.put o.dst v) w' := by
  obtain ⟨_, _, hVn, hget⟩ := h.view tr hN hap ho hgj hj hr
  have hgn := (tr.n.2.1 j g hgj).1
  have hmo : ∀ i, X i = true → X' i = true := fun i hi => by rw [hX', hi]; rfl
  have hX'j : X' j = true := by rw [hX']; simp
  have hne : ∀ i, i ≠ j → X' i = X i := fun i hi => by rw [hX']; simp [hi]
  have hup : ∀ p ∈ g.r.upd, p.1 < g.n := fun p hp => (hget p.1 (hs.upd p hp).2).2.2
  have hnext := cur_next tr h hgj hj hVn hup hX'
  have hV : ∀ x, ¬ ((viewS l.S lg (beforeM ops) j g.n 0 {}).get x).Gone → (viewS l.S lg (beforeM ops) j g.n 0 {}).get x = cur l.S lg X x := fun x hx => (hget x hx).1
  have hdis : ∀ x, LX (Sc L0 S0.n l.S.n) lg X x → ¬ ((viewS l.S lg (beforeM ops) j g.n 0 {}).n ≤ x ∧ x < (viewS l.S lg (beforeM ops) j g.n 0 {}).n + g.r.new.length) := fun x hx => by
    rw [hVn]; exact LX_dis tr h.n h.lt hgj hj hx
  have hag : Agree Γ Γ' (LX (Sc L0 S0.n l.S.n) lg X) := ⟨hs.ρ, fun x hx => hs.id x (hdis x hx), fun x hx => hs.sz x (hdis x hx)⟩
  have hlx : ∀ x, (LX (Sc L0 S0.n l.S.n) lg X x ∨ ((viewS l.S lg (beforeM ops) j g.n 0 {}).n ≤ x ∧ x < (viewS l.S lg (beforeM ops) j g.n 0 {}).n + g.r.new.length)) → LX (Sc L0 S0.n l.S.n) lg X' x := fun x hx => by
    rw [hVn] at hx
    rcases hx with hx | hx
    · exact LX.mono hmo hx
    · exact .inr ⟨j, g, hgj, hX'j, hx⟩
  have hlx2 : ∀ x, ((LX (Sc L0 S0.n l.S.n) lg X x ∧ x < g.n) ∨ ((viewS l.S lg (beforeM ops) j g.n 0 {}).n ≤ x ∧ x < (viewS l.S lg (beforeM ops) j g.n 0 {}).n + g.r.new.length)) → LX (Sc L0 S0.n l.S.n) lg X' x ∧ x < g.stop := fun x hx => by
    refine ⟨hlx x (hx.imp (fun h => h.1) fun h => h), ?_⟩
    rw [hVn] at hx
    unfold Log.stop
    rcases hx with hx | hx <;> omega
  have hput : ∀ t, o.dst ≠ some t → (a.put o.dst v).tmps.getD t undef = a.tmps.getD t undef := fun t ht => by
    cases hd : o.dst with
    | none => rfl
    | some q =>
      have : q ≠ t := fun h => ht (by rw [hd, h])
      simp [Act.put, this]
  have hputs : ∀ t, o.dst = some t → (a.put o.dst v).tmps.getD t undef = v := fun t ht => by
    have h1 := tr.dst j o t ho ht
    have h2 := h.size
    have h3 : t < a.tmps.size := Nat.lt_of_lt_of_le h1 h2
    rw [ht]
    simp [Act.put, h3]
  refine ⟨h.lt, h.n, (h.br.step hs (fun x hx => hx.1) hV hdis hnext).mono hlx, h.far.step hs hV (by rw [hVn]; have := h.n; omega) (hd j g hgj) hnext, ?_, ?_, fun t ht => ?_, fun i oi gi t hoi hgi hXi hdi => ?_, h.fron, h.son, fun i gi hgi hXi => ?_, fun i oi hoi hXi e he hb => ?_, h.sgone⟩
  · cases o.dst <;> exact h.defers
  · have := h.size
    cases o.dst with
    | none => exact this
    | some q => simpa [Act.put] using this
  · rw [hput t (ht j o ho hX'j)]
    exact MV.rel_agree hag (MV.on_mono (fun y hy => .inl hy) (h.fron t)) (h.slot0 t fun i oi hoi hXi => ht i oi hoi (hmo i hXi))
  · by_cases hij : i = j
    · subst hij
      rw [ho] at hoi; cases hoi
      rw [hgj] at hgi; cases hgi
      rw [hputs t hdi]
      exact hv
    · rw [hne i hij] at hXi
      rw [hput t fun hd => hij (hap i j oi o t hoi ho hdi hd)]
      exact MV.rel_agree hag (MV.on_mono (fun y hy => hy.1) (h.made i gi hgi hXi).1) (h.slot1 i oi gi t hoi hgi hXi hdi)
  · by_cases hij : i = j
    · subst hij
      rw [hgj] at hgi; cases hgi
      refine ⟨MV.on_mono hlx2 hs.onMv, fun b hb => Blk.on_mono hlx2 (hs.onNew b hb), fun p hp => ⟨Blk.on_mono hlx2 (hs.onUpd p hp), hup p hp, ?_, (hget p.1 (hs.upd p hp).2).2.1⟩⟩
      have hpg := (hs.upd p hp).2
      rw [hV p.1 hpg] at hpg
      exact LX.mono hmo (h.br.live p.1 hpg)
    · rw [hne i hij] at hXi
      obtain ⟨h1, h2, h3⟩ := h.made i gi hgi hXi
      have hm : ∀ y, (LX (Sc L0 S0.n l.S.n) lg X y ∧ y < gi.stop) → LX (Sc L0 S0.n l.S.n) lg X' y ∧ y < gi.stop := fun y hy => ⟨LX.mono hmo hy.1, hy.2⟩
      exact ⟨MV.on_mono hm h1, fun b hb => Blk.on_mono hm (h2 b hb), fun p hp => ⟨Blk.on_mono hm (h3 p hp).1, (h3 p hp).2.1, LX.mono hmo (h3 p hp).2.2.1, (h3 p hp).2.2.2⟩⟩
  · by_cases hij : i = j
    · subst hij
      rw [ho] at hoi; cases hoi
      exact hmo _ (hr e he hb)
    · rw [hne i hij] at hXi
      exact hmo _ (h.closed i oi hoi hXi e he hb)
theorem Trace.off_r (tr : Trace ops l lg l') : ∀ (i : Nat) (g : Log), lg[i]? = some g → g.on = false → g.r = { mv := .und } := by
  induction tr with
  | nil => intro i g h; simp at h
  | on _ _ ih =>
    intro i g h ho
    cases i with
    | zero => simp only [List.getElem?_cons_zero, Option.some.injEq] at h; subst h; cases ho
    | succ i => exact ih i g (by simpa using h) ho
  | off _ _ ih =>
    intro i g h ho
    cases i with
    | zero => simp only [List.getElem?_cons_zero, Option.some.injEq] at h; subst h; rfl
    | succ i => exact ih i g (by simpa using h) ho
  | facts _ ih => exact ih
theorem mvsBeq_eq : ∀ {a b : List MV}, mvsBeq a b = true → a = b
  | [], [], _ => rfl
  | a :: l, b :: r, h => by
    simp only [mvsBeq, Bool.and_eq_true] at h
    rw [MV.eq_of h.1, mvsBeq_eq h.2]
  | [], _ :: _, h => by simp [mvsBeq] at h
  | _ :: _, [], h => by simp [mvsBeq] at h
/-- A call hangs on the function, the arguments and the blocks alone. -/
theorem stepM_key {P : Program} {bs : Bds} {call : Callee} {fs : Facts} {fr fr' : Fr} {S : St} {op : Op} (h : sameKey fr fr' op = true) : stepM P bs call fs fr S op = stepM P bs call fs fr' S op := by
  unfold sameKey at h
  split at h
  · rename_i a l b r h1 h2
    rw [Bool.and_eq_true] at h
    have ha := MV.eq_of h.1
    have hl := mvsBeq_eq h.2
    subst ha hl
    rw [stepM_eq, stepM_eq]
    unfold callKey at h1 h2
    split at h1
    · simp only [Option.some.injEq, Prod.mk.injEq] at h1 h2
      simp only [stepM0]
      rw [h1.1, h1.2, h2.1, h2.2]
    · cases h1
  · cases h
theorem coversT_spec : ∀ {a b : Tri Blk}, coversT a b = true → ∀ x, a.get .gone x = .gone ∨ a.get .gone x = b.get .gone x
  | .e, _, _, _ => .inl rfl
  | .n l v r, b, h, x => by
    simp only [coversT, Bool.and_eq_true, Bool.or_eq_true] at h
    obtain ⟨h1, h2, h3⟩ := h
    rcases Tri.cases3 x with rfl | ⟨t, rfl⟩ | ⟨t, rfl⟩
    · rw [Tri.get_n_zero, ← Tri.top_get]
      rcases h1 with h1 | h1
      · left; cases v <;> simp [Blk.gone?] at h1; rfl
      · exact .inr (Blk.eq_of h1)
    · rw [Tri.get_n_odd, ← Tri.left_get]; exact coversT_spec h2 t
    · rw [Tri.get_n_even, ← Tri.right_get]; exact coversT_spec h3 t
theorem St.rel_covers {Γ : Ctx} {L : Nat → Prop} {A B : St} {w : World} (hc : ∀ x, A.get x = .gone ∨ A.get x = B.get x) (h : B.rel Γ L w) : A.rel Γ L w := by
  have eq : ∀ x, ¬ (A.get x).Gone → A.get x = B.get x := fun x hx => (hc x).resolve_left hx
  refine ⟨fun x => ?_, fun x => ?_, fun x hx => ?_, fun x y hx hy hxy => ?_⟩
  · rcases hc x with e | e
    · rw [e]; trivial
    · rw [e]; exact h.rel x
  · rcases hc x with e | e
    · rw [e]; trivial
    · rw [e]; exact h.on x
  · have e := eq x hx; rw [e] at hx; exact h.live x hx
  · have e1 := eq x hx; have e2 := eq y hy
    rw [e1] at hx; rw [e2] at hy
    exact h.inj x y hx hy hxy
theorem Step.covers {Γ Γ' : Ctx} {L : Nat → Prop} {A B : St} {r : Res} {w w' : World} (hn : A.n = B.n) (hc : ∀ x, A.get x = .gone ∨ A.get x = B.get x) (h : Step Γ Γ' L A r w w') : Step Γ Γ' L B r w w' := by
  have ng : ∀ x, ¬ (A.get x).Gone → ¬ (B.get x).Gone := fun x hx => by have e := (hc x).resolve_left hx; rwa [e] at hx
  refine ⟨h.ρ, by rw [← hn]; exact h.id, by rw [← hn]; exact h.sz, h.os, h.tape, h.output, h.size, h.keep, by rw [← hn]; exact h.new, fun i hi hg => ?_, by rw [← hn]; exact h.apart, fun p hp => ⟨(h.upd p hp).1, ng _ (h.upd p hp).2⟩, h.once, by rw [← hn]; exact h.onMv, by rw [← hn]; exact h.onNew, by rw [← hn]; exact h.onUpd⟩
  rw [← hn]
  rcases h.fresh i hi hg with h1 | ⟨p, h1, h2, h3, h4⟩
  · exact .inl h1
  · exact .inr ⟨p, h1, h2, ng _ h3, h4⟩
/-- One operation, in any state that may be met ahead of it. -/
theorem DI.op {P : Program} {bs : Bds} {call : Callee} {fs : Facts} (hcall : Callee.Sound P bs call) (hb : bs.hold Γ0.ρ) (tr : Trace ops l lg l') (hN : l.N ≤ 4000) (hd : ∀ (i : Nat) (g : Log), lg[i]? = some g → ∀ p ∈ g.r.upd, p.1 ∈ d)
    (hap : ∀ (i k : Nat) (oi ok : Oper) (t : Nat), ops[i]? = some oi → ops[k]? = some ok → oi.dst = some t → ok.dst = some t → i = k)
    (h : DI ops lg l d L0 Γ0 S0 w0 X Γ a w) {j : Nat} {o : Oper} {g : Log} (ho : ops[j]? = some o) (hgj : lg[j]? = some g) (hj : X j = false) (hr : ∀ e ∈ o.after, Region.binds .any e = true → X e.on = true)
    (hX' : ∀ i, X' i = (X i || decide (i = j))) (hran : AllRan P bs call Γ0.ρ ops lg) (hck : checkOp P bs call ops (beforeM ops) l lg fs j o g = true) {K : Act → World → Prop} {Q : Exit → Act → World → Prop}
    (hK : ∀ Γ' a' w', DI ops lg l d L0 Γ0 S0 w0 X' Γ' a' w' → K a' w') : wpOp P ops.toArray Q j K a w := by
  obtain ⟨hfr, hS, hVn, hget⟩ := h.view tr hN hap ho hgj hj hr
  have hρ := h.far.ρ
  have hbΓ : bs.hold Γ.ρ := by rw [hρ]; exact hb
  have hfΓ : g.fs.hold Γ.ρ := by rw [hρ]; exact (hran j o g ho hgj).1
  unfold checkOp at hck
  simp only at hck
  unfold wpOp
  have ho' : ops.toArray[j]? = some o := by simpa using ho
  simp only [ho']
  split at hck
  · rename_i hw
    have hwant := wantM_inl hw hfr.rel hbΓ hfΓ
    rw [if_pos hwant]
    split at hck
    · rename_i hon
      rw [Bool.or_eq_true] at hck
      rcases hck with hag | hck
      · unfold again at hag
        rw [Bool.and_eq_true, Bool.and_eq_true] at hag
        obtain ⟨hk, hn, hc⟩ := hag
        have hn := Nat.eq_of_beq_eq_true hn
        have hc := coversT_spec hc
        obtain ⟨T, q, h2, h3, h4⟩ := (hran j o g ho hgj).2 hon
        have h2 : stepM P bs call g.fs (viewFr (beforeM ops) j ops lg 0 l.fr) g.S o.op = .ct T := by rw [stepM_key hk]; exact h2
        have hop := stepM_sound (o := o) hcall h2 (by rw [hρ]; exact h3) hfr (St.rel_covers hc hS) (fun x hx => by rw [hn, hVn]; exact hx.2) hbΓ hfΓ
        refine .inl (hop _ _ fun v Γ' r' g'' w' e1 e2 e3 => ?_)
        rw [hρ, h4, Option.some.injEq, Prod.mk.injEq] at e1
        obtain ⟨e1, _⟩ := e1
        subst e1
        exact hK Γ' _ w' (h.next tr hN hd hap ho hgj hj hr hX' e2 (Step.covers hn hc e3))
      · split at hck
        · rename_i t ht
          split at hck
          · rename_i r hfo
            have hrg := Res.eq_of hck
            subst hrg
            obtain ⟨hok, g', hat⟩ := followCT_spec (ρ := Γ.ρ) hbΓ hfΓ hfo
            have hop := stepM_sound (o := o) hcall ht hok hfr hS (fun x hx => by rw [hVn]; exact hx.2) hbΓ hfΓ
            refine .inl (hop _ _ fun v Γ' r' g'' w' h1 h2 h3 => ?_)
            rw [hat, Option.some.injEq, Prod.mk.injEq] at h1
            obtain ⟨h1, _⟩ := h1
            subst h1
            exact hK Γ' _ w' (h.next tr hN hd hap ho hgj hj hr hX' h2 h3)
          · cases hck
        · cases hck
    · cases hck
  · rename_i hw
    have hwant := wantM_inl hw hfr.rel hbΓ hfΓ
    rw [if_neg (by rw [hwant]; simp)]
    have hoff := tr.off_r j g hgj (by simpa using hck)
    refine hK Γ _ w (h.next tr hN hd hap ho hgj hj hr hX' (by rw [hoff]; rfl) ?_)
    rw [hoff]
    exact Step.pure trivial
  · cases hck
/-! ### All of them -/
def cnt (listed : Array Bool) : Nat → Nat
  | 0 => 0
  | k + 1 => cnt listed k + if listed.getD k true = false then 1 else 0
theorem cnt_le {listed : Array Bool} {i : Nat} : ∀ {k : Nat}, cnt (listed.setIfInBounds i true) k ≤ cnt listed k
  | 0 => Nat.le_refl _
  | k + 1 => by
    have ih := cnt_le (listed := listed) (i := i) (k := k)
    simp only [cnt]
    have : (if (listed.setIfInBounds i true).getD k true = false then 1 else 0) ≤ (if listed.getD k true = false then 1 else 0 : Nat) := by
      by_cases hik : i = k
      · subst hik
        have : (listed.setIfInBounds i true).getD i true = true := by
          rcases Nat.lt_or_ge i listed.size with h | h
          · simp [h]
          · simp
        rw [this]; simp
      · have : (listed.setIfInBounds i true).getD k true = listed.getD k true := by simp [hik]
        rw [this]
        exact Nat.le_refl _
    omega
theorem cnt_set {listed : Array Bool} {i : Nat} (hi : listed.getD i true = false) : ∀ {k : Nat}, i < k → cnt (listed.setIfInBounds i true) k + 1 ≤ cnt listed k
  | 0, h => by omega
  | k + 1, h => by
    simp only [cnt]
    by_cases hik : i = k
    · subst hik
      have h1 : (listed.setIfInBounds i true).getD i true = true := by
        rcases Nat.lt_or_ge i listed.size with h | h
        · simp [h]
        · simp
      have := cnt_le (listed := listed) (i := i) (k := i)
      rw [h1, hi]; simp; omega
    · have ih := cnt_set hi (k := k) (by omega)
      have : (listed.setIfInBounds i true).getD k true = listed.getD k true := by simp [hik]
      rw [this]; omega
theorem cnt_zero {listed : Array Bool} : ∀ {k : Nat}, cnt listed k = 0 → ∀ i, i < k → listed.getD i true = true
  | 0, _, i, h => by omega
  | k + 1, hc, i, h => by
    simp only [cnt] at hc
    by_cases hik : i = k
    · subst hik
      cases hv : listed.getD i true with
      | true => rfl
      | false => rw [hv] at hc; simp at hc
    · exact cnt_zero (k := k) (by omega) i (by omega)
theorem getD_flip {listed : Array Bool} {i : Nat} (hi : i < listed.size) : listed.getD i true = listed.getD i false := by simp [hi]
theorem drawn_any {P : Program} {bs : Bds} {call : Callee} {fs : Facts} {Q : Exit → Act → World → Prop} (hcall : Callee.Sound P bs call) (hb : bs.hold Γ0.ρ) (tr : Trace ops l lg l') (hran : AllRan P bs call Γ0.ρ ops lg) (hN : l.N ≤ 4000)
    (hd : ∀ (i : Nat) (g : Log), lg[i]? = some g → ∀ p ∈ g.r.upd, p.1 ∈ d) (hap : ∀ (i k : Nat) (oi ok : Oper) (t : Nat), ops[i]? = some oi → ops[k]? = some ok → oi.dst = some t → ok.dst = some t → i = k)
    (hback : ∀ (j : Nat) (o : Oper), ops[j]? = some o → ∀ e ∈ o.after, Region.binds .any e = true → e.on < j)
    (hck : ∀ (j : Nat) (o : Oper) (g : Log), ops[j]? = some o → lg[j]? = some g → checkOp P bs call ops (beforeM ops) l lg fs j o g = true)
    (hend : ∀ X Γ a w, (∀ i, i < ops.length → X i = true) → DI ops lg l d L0 Γ0 S0 w0 X Γ a w → Q .normal a w) :
    ∀ (fuel : Nat) (listed : Array Bool) (Γ : Ctx) (a : Act) (w : World), listed.size = ops.length → cnt listed ops.length ≤ fuel → DI ops lg l d L0 Γ0 S0 w0 (fun i => listed.getD i false) Γ a w → wpAny P .any ops.toArray Q fuel listed a w := by
  have done : ∀ (listed : Array Bool), listed.size = ops.length → Region.ready .any ops.toArray listed = [] → ∀ n i, i < n → i < ops.length → listed.getD i false = true := fun listed hsz hr n => by
    induction n with
    | zero => intro i h; omega
    | succ n ih =>
      intro i hin hi
      cases hv : listed.getD i false with
      | true => rfl
      | false =>
        exfalso
        have ho : ops[i]? = some ops[i] := List.getElem?_eq_getElem hi
        have : i ∈ Region.ready .any ops.toArray listed := mem_ready.2 ⟨by rw [getD_flip (by omega)]; exact hv, ops[i], by simp [hi], fun e he hb => ih e.on (by have := hback i _ ho e he hb; omega) (by have := hback i _ ho e he hb; omega)⟩
        rw [hr] at this; cases this
  intro fuel
  induction fuel with
  | zero =>
    intro listed Γ a w hsz hc h
    have hall : ∀ i, i < ops.length → listed.getD i false = true := fun i hi => by rw [← getD_flip (by omega)]; exact cnt_zero (Nat.le_zero.1 hc) i hi
    refine ⟨?_, hend _ Γ a w hall h⟩
    rcases hr : Region.ready .any ops.toArray listed with _ | ⟨i, r⟩
    · rfl
    · have hi : i ∈ Region.ready .any ops.toArray listed := by rw [hr]; simp
      obtain ⟨h1, o, h2, _⟩ := mem_ready.1 hi
      have h2 : ops[i]? = some o := by simpa using h2
      have hlt := (List.getElem?_eq_some_iff.1 h2).1
      rw [getD_flip (by omega), hall i hlt] at h1
      cases h1
  | succ fuel ih =>
    intro listed Γ a w hsz hc h
    refine ⟨fun hr => hend _ Γ a w (fun i hi => done listed hsz hr (i + 1) i (by omega) hi) h, fun i hi => ?_⟩
    obtain ⟨h1, o, h2, h3⟩ := mem_ready.1 hi
    have h2 : ops[i]? = some o := by simpa using h2
    have hlt := (List.getElem?_eq_some_iff.1 h2).1
    obtain ⟨g, hg⟩ := lg_of_op tr h2
    have hXi : listed.getD i false = false := by rw [← getD_flip (by omega)]; exact h1
    refine DI.op (X' := fun k => (listed.setIfInBounds i true).getD k false) hcall hb tr hN hd hap h h2 hg hXi h3 (fun k => ?_) hran (hck i o g h2 hg) fun Γ' a' w' h' => ih _ Γ' a' w' (by simp [hsz]) ?_ h'
    · by_cases hki : k = i
      · subst hki
        simp [show k < listed.size from by omega]
      · simp [hki, Ne.symm hki]
    · have := cnt_set h1 hlt
      omega
end
end Sx
end Go.Proofs.Ytigblagodlfedaa
