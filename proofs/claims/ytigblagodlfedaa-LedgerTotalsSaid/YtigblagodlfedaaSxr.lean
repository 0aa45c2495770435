/- The symbolic run: blocks by what is known of them, whatever the order. -/
import Derived.Test.YtigblagodlfedaaSxq
namespace Go.Proofs.Ytigblagodlfedaa
namespace Sx
open Go.RowKit

structure BR (Γ : Ctx) (L : Nat → Prop) (G : Nat → Blk) (w : World) : Prop where
  rel : ∀ j, (G j).rel Γ w j
  on : ∀ j, (G j).on L
  live : ∀ j, ¬ (G j).Gone → L j
  inj : ∀ i j, ¬ (G i).Gone → ¬ (G j).Gone → Γ.id i = Γ.id j → i = j
/-- How what is known goes on behind one operation. -/
def Next' (V : St) (r : Res) (G G' : Nat → Blk) : Prop := ∀ x,
  ((V.n ≤ x ∧ x < V.n + r.new.length) ∧ (G' x = .gone ∨ G' x = r.new.getD (x - V.n) .gone)) ∨
  (¬ (V.n ≤ x ∧ x < V.n + r.new.length) ∧ ((∃ p ∈ r.upd, p.1 = x ∧ (G' x = .gone ∨ G' x = p.2)) ∨ ((∀ p ∈ r.upd, p.1 ≠ x) ∧ (G' x = .gone ∨ G' x = G x))))
theorem BR.step {Γ Γ' : Ctx} {L L' : Nat → Prop} {V : St} {r : Res} {w w' : World} {G G' : Nat → Blk} (hB : BR Γ L G w) (h : Step Γ Γ' L' V r w w') (hL' : ∀ j, L' j → L j)
    (hV : ∀ j, ¬ (V.get j).Gone → V.get j = G j) (hdis : ∀ j, L j → ¬ (V.n ≤ j ∧ j < V.n + r.new.length)) (hG : Next' V r G G') :
    BR Γ' (fun j => L j ∨ (V.n ≤ j ∧ j < V.n + r.new.length)) G' w' := by
  have ha : Agree Γ Γ' L := ⟨h.ρ, fun j hj => h.id j (hdis j hj), fun j hj => h.sz j (hdis j hj)⟩
  have hmo : ∀ j, (L' j ∨ (V.n ≤ j ∧ j < V.n + r.new.length)) → (L j ∨ (V.n ≤ j ∧ j < V.n + r.new.length)) := fun j hj => hj.imp (hL' j) id
  have hpg : ∀ p ∈ r.upd, ¬ (G p.1).Gone := fun p hp => by have := (h.upd p hp).2; rw [← hV p.1 this]; exact this
  have old : ∀ j, ¬ (G j).Gone → (∀ p ∈ r.upd, p.1 ≠ j) → w'.heap[Γ.id j]? = w.heap[Γ.id j]? := fun j hj hp =>
    h.keep _ (Blk.rel_heap (hB.rel j) hj) fun p hpu e => hp p hpu (hB.inj _ _ (hpg p hpu) hj e)
  constructor
  · intro j
    rcases hG j with ⟨h1, h2 | h2⟩ | ⟨_, ⟨p, hp, rfl, h3 | h3⟩ | ⟨h2, h3 | h3⟩⟩
    · rw [h2]; trivial
    · rw [h2]
      have := h.new (j - V.n) (by omega)
      rwa [show V.n + (j - V.n) = j from by omega] at this
    · rw [h3]; trivial
    · rw [h3]; exact (h.upd p hp).1
    · rw [h3]; trivial
    · rw [h3]
      by_cases hj : (G j).Gone
      · rw [hj]; trivial
      · exact Blk.rel_agree ha (hB.live j hj) (hB.on j) (old j hj h2) (hB.rel j)
  · intro j
    rcases hG j with ⟨h1, h2 | h2⟩ | ⟨_, ⟨p, hp, rfl, h3 | h3⟩ | ⟨h2, h3 | h3⟩⟩
    · rw [h2]; trivial
    · rw [h2]
      by_cases hg : (r.new.getD (j - V.n) .gone).Gone
      · rw [hg]; trivial
      · exact Blk.on_mono hmo (h.onNew _ (getD_mem hg).2)
    · rw [h3]; trivial
    · rw [h3]; exact Blk.on_mono hmo (h.onUpd p hp)
    · rw [h3]; trivial
    · rw [h3]; exact Blk.on_mono (fun j h => .inl h) (hB.on j)
  · intro j hj
    rcases hG j with ⟨h1, h2 | h2⟩ | ⟨_, ⟨p, hp, rfl, h3 | h3⟩ | ⟨h2, h3 | h3⟩⟩
    · exact absurd h2 hj
    · exact .inr h1
    · exact absurd h3 hj
    · exact .inl (hB.live _ (hpg p hp))
    · exact absurd h3 hj
    · rw [h3] at hj; exact .inl (hB.live j hj)
  · intro i j hi hj hij
    have was : ∀ u, ¬ (G' u).Gone → ¬ (V.n ≤ u ∧ u < V.n + r.new.length) → ¬ (G u).Gone ∧ Γ'.id u = Γ.id u := fun u hg hc => by
      rcases hG u with ⟨h1, _⟩ | ⟨_, ⟨p, hp, rfl, h3⟩ | ⟨h2, h3 | h3⟩⟩
      · exact absurd h1 hc
      · exact ⟨hpg p hp, h.id _ hc⟩
      · exact absurd h3 hg
      · rw [h3] at hg; exact ⟨hg, h.id _ hc⟩
    have isNew : ∀ u, ¬ (G' u).Gone → (V.n ≤ u ∧ u < V.n + r.new.length) → ¬ (r.new.getD (u - V.n) .gone).Gone := fun u hg hc => by
      rcases hG u with ⟨_, h3 | h3⟩ | ⟨hh, _⟩
      · exact absurd h3 hg
      · rwa [h3] at hg
      · exact absurd hc hh
    have mix : ∀ u v, ¬ (G' u).Gone → ¬ (G' v).Gone → (V.n ≤ u ∧ u < V.n + r.new.length) → ¬ (V.n ≤ v ∧ v < V.n + r.new.length) → Γ'.id u ≠ Γ'.id v := fun u v hgu hgv hcu hcv e => by
      obtain ⟨hv1, hv2⟩ := was v hgv hcv
      have hnu := isNew u hgu hcu
      have hf := h.fresh (u - V.n) (by omega) hnu
      rw [show V.n + (u - V.n) = u from by omega] at hf
      rcases hf with hf | ⟨p, hp, hpgo, hps, hpe⟩
      · have := Blk.rel_heap (hB.rel v) hv1
        rw [e, hv2] at hf; omega
      · have hvp : v = p.1 := hB.inj v p.1 hv1 (hpg p hp) (by rw [← hv2, ← e, hpe])
        subst hvp
        rcases hG p.1 with ⟨h1, _⟩ | ⟨_, ⟨q, hq, hqe, h3 | h3⟩ | ⟨h2, _⟩⟩
        · exact hcv h1
        · exact hgv h3
        · exact hgv (by rw [h3]; exact h.once q hq p hp hqe hpgo)
        · exact h2 p hp rfl
    by_cases hci : V.n ≤ i ∧ i < V.n + r.new.length
    · by_cases hcj : V.n ≤ j ∧ j < V.n + r.new.length
      · have hi' := isNew i hi hci; have hj' := isNew j hj hcj
        have := h.apart (i - V.n) (j - V.n) (by omega) (by omega) hi' hj' (by
          rw [show V.n + (i - V.n) = i from by omega, show V.n + (j - V.n) = j from by omega]; exact hij)
        omega
      · exact absurd hij (mix i j hi hj hci hcj)
    · by_cases hcj : V.n ≤ j ∧ j < V.n + r.new.length
      · exact absurd hij.symm (mix j i hj hi hcj hci)
      · obtain ⟨h1, h2⟩ := was i hi hci
        obtain ⟨h3, h4⟩ := was j hj hcj
        exact hB.inj i j h1 h3 (by rw [← h2, ← h4]; exact hij)
theorem BR.mono {Γ : Ctx} {L L' : Nat → Prop} {G : Nat → Blk} {w : World} (h : BR Γ L G w) (hl : ∀ j, L j → L' j) : BR Γ L' G w :=
  ⟨h.rel, fun j => Blk.on_mono hl (h.on j), fun j hj => hl j (h.live j hj), h.inj⟩
/-- What has come of the world since the start, by what is known of blocks. -/
structure FarG (Γ0 Γ : Ctx) (S0 : St) (G : Nat → Blk) (d : List Nat) (w0 w : World) : Prop where
  ρ : Γ.ρ = Γ0.ρ
  id : ∀ j, j < S0.n → Γ.id j = Γ0.id j
  sz : ∀ j, j < S0.n → Γ.sz j = Γ0.sz j
  os : w.os = w0.os
  tape : w.tape = w0.tape
  output : w.output = w0.output
  size : w0.heap.size ≤ w.heap.size
  keep : ∀ k, k < w0.heap.size → (∀ j ∈ d, j < S0.n → ¬ (S0.get j).Gone → Γ0.id j ≠ k) → w.heap[k]? = w0.heap[k]?
  fresh : ∀ j, S0.n ≤ j → ¬ (G j).Gone → w0.heap.size ≤ Γ.id j ∨ ∃ p ∈ d, p < S0.n ∧ ¬ (S0.get p).Gone ∧ Γ.id j = Γ0.id p
  gone : ∀ j, j < S0.n → ¬ (G j).Gone → ¬ (S0.get j).Gone
theorem FarG.step {Γ0 Γ Γ' : Ctx} {S0 V : St} {G G' : Nat → Blk} {d : List Nat} {w0 w w' : World} {r : Res} {L' : Nat → Prop} (hf : FarG Γ0 Γ S0 G d w0 w) (h : Step Γ Γ' L' V r w w')
    (hV : ∀ j, ¬ (V.get j).Gone → V.get j = G j) (hn : S0.n ≤ V.n) (hd : ∀ p ∈ r.upd, p.1 ∈ d) (hG : Next' V r G G') : FarG Γ0 Γ' S0 G' d w0 w' := by
  have hpg : ∀ p ∈ r.upd, ¬ (G p.1).Gone := fun p hp => by have := (h.upd p hp).2; rw [← hV p.1 this]; exact this
  have was : ∀ p ∈ r.upd, ∀ k, k < w0.heap.size → (∀ j ∈ d, j < S0.n → ¬ (S0.get j).Gone → Γ0.id j ≠ k) → Γ.id p.1 ≠ k := fun p hp k hk hj => by
    by_cases hp0 : p.1 < S0.n
    · rw [hf.id _ hp0]
      exact hj p.1 (hd p hp) hp0 (hf.gone _ hp0 (hpg p hp))
    · rcases hf.fresh p.1 (by omega) (hpg p hp) with h1 | ⟨q, hq, hq0, hqg, hqe⟩
      · omega
      · rw [hqe]; exact hj q hq hq0 hqg
  refine ⟨h.ρ.trans hf.ρ, fun j hj => (h.id j (by omega)).trans (hf.id j hj), fun j hj => (h.sz j (by omega)).trans (hf.sz j hj), h.os.trans hf.os, h.tape.trans hf.tape, h.output.trans hf.output, Nat.le_trans hf.size h.size, fun k hk hj => ?_, fun j hj hg => ?_, fun j hj hg => ?_⟩
  · rw [h.keep k (by have := hf.size; omega) fun p hp => was p hp k hk hj, hf.keep k hk hj]
  · have old : ∀ j, S0.n ≤ j → ¬ (V.n ≤ j ∧ j < V.n + r.new.length) → ¬ (G j).Gone → w0.heap.size ≤ Γ'.id j ∨ ∃ p ∈ d, p < S0.n ∧ ¬ (S0.get p).Gone ∧ Γ'.id j = Γ0.id p := fun j h1 h2 h3 => by
      rw [h.id j h2]
      exact hf.fresh j h1 h3
    rcases hG j with ⟨h1, h2 | h2⟩ | ⟨hc, ⟨p, hp, rfl, h3⟩ | ⟨h2, h3 | h3⟩⟩
    · exact absurd h2 hg
    · rw [h2] at hg
      have hfr := h.fresh (j - V.n) (by omega) hg
      rw [show V.n + (j - V.n) = j from by omega] at hfr
      rcases hfr with h4 | ⟨p, hp, _, hps, hpe⟩
      · exact .inl (Nat.le_trans hf.size h4)
      · by_cases hp0 : p.1 < S0.n
        · exact .inr ⟨p.1, hd p hp, hp0, hf.gone _ hp0 (hpg p hp), by rw [hpe, hf.id _ hp0]⟩
        · rcases hf.fresh p.1 (by omega) (hpg p hp) with h4 | ⟨q, hq, h5, h6, h7⟩
          · exact .inl (by rw [hpe]; exact h4)
          · exact .inr ⟨q, hq, h5, h6, by rw [hpe, h7]⟩
    · exact old p.1 hj hc (hpg p hp)
    · exact absurd h3 hg
    · rw [h3] at hg
      exact old j hj hc hg
  · rcases hG j with ⟨h1, _⟩ | ⟨_, ⟨p, hp, rfl, h3⟩ | ⟨h2, h3 | h3⟩⟩
    · omega
    · exact hf.gone _ hj (hpg p hp)
    · exact absurd h3 hg
    · rw [h3] at hg; exact hf.gone j hj hg

/-! ### The check, one by one -/
theorem blksBeq_eq : ∀ {a b : List Blk}, blksBeq a b = true → a = b
  | [], [], _ => rfl
  | a :: l, b :: r, h => by
    simp only [blksBeq, Bool.and_eq_true] at h
    rw [Blk.eq_of h.1, blksBeq_eq h.2]
  | [], _ :: _, h => by simp [blksBeq] at h
  | _ :: _, [], h => by simp [blksBeq] at h
theorem updsBeq_eq : ∀ {a b : List (Nat × Blk)}, updsBeq a b = true → a = b
  | [], [], _ => rfl
  | a :: l, b :: r, h => by
    simp only [updsBeq, Bool.and_eq_true] at h
    rw [show a = b from Prod.ext (Nat.eq_of_beq_eq_true h.1) (Blk.eq_of h.2.1), updsBeq_eq h.2.2]
  | [], _ :: _, h => by simp [updsBeq] at h
  | _ :: _, [], h => by simp [updsBeq] at h
theorem Res.eq_of {a b : Res} (h : a.beq b = true) : a = b := by
  unfold Res.beq at h
  simp only [Bool.and_eq_true] at h
  obtain ⟨m, n, u⟩ := a
  obtain ⟨m', n', u'⟩ := b
  simp only at h
  rw [MV.eq_of h.1, blksBeq_eq h.2.1, updsBeq_eq h.2.2]
theorem followCT_spec {bs : Bds} {fs : Facts} {ρ : Val} (hb : bs.hold ρ) (hf : fs.hold ρ) {r : Res} : ∀ {t : CT}, followCT bs fs t = some r → t.ok ρ ∧ ∃ g, t.at ρ = some (r, g)
  | .leaf r' g, h => by simp only [followCT, Option.some.injEq] at h; subst h; exact ⟨trivial, g, rfl⟩
  | .br _ e t f, h => by
    simp only [followCT] at h
    have ht := simpT_T hb hf e
    split at h
    · rename_i hs
      rw [hs] at ht
      have ht : e.T ρ = true := by rw [← ht]; simp [E.T]
      simp only [CT.ok, CT.at, if_pos ht]
      exact followCT_spec hb hf h
    · rename_i hs
      rw [hs] at ht
      have ht : ¬ e.T ρ = true := by rw [← ht]; simp [E.T]
      simp only [CT.ok, CT.at, if_neg ht]
      exact followCT_spec hb hf h
    · cases h
  | .dead, h => by simp [followCT] at h
  | .fail _, h => by simp [followCT] at h
theorem checkAll_get {P : Program} {bs : Bds} {call : Callee} {all : List Oper} {b : List Nat} {l0 : Leaf} {lg0 : List Log} {fs : Facts} : ∀ {k : Nat} {ops : List Oper} {lg : List Log}, checkAll P bs call all b l0 lg0 fs k ops lg = true →
    ∀ (j : Nat) (o : Oper) (g : Log), ops[j]? = some o → lg[j]? = some g → checkOp P bs call all b l0 lg0 fs (k + j) o g = true
  | _, [], [], _, j, o, g, h, _ => by simp at h
  | k, o :: ops, g :: lg, hc, 0, o', g', h, h' => by
    simp only [checkAll, Bool.and_eq_true] at hc
    simp only [List.getElem?_cons_zero, Option.some.injEq] at h h'
    subst h h'
    exact hc.1
  | k, o :: ops, g :: lg, hc, j + 1, o', g', h, h' => by
    simp only [checkAll, Bool.and_eq_true] at hc
    have := checkAll_get hc.2 j o' g' (by simpa using h) (by simpa using h')
    rwa [show k + 1 + j = k + (j + 1) from by omega] at this
  | _, [], _ :: _, hc, _, _, _, _, _ => by simp [checkAll] at hc
  | _, _ :: _, [], hc, _, _, _, _, _ => by simp [checkAll] at hc

/-! ### Views -/
theorem viewFr_get {b : List Nat} {j t : Nat} : ∀ {ops : List Oper} {lg : List Log} {k : Nat} {fr : Fr}, (∀ (i : Nat) (o : Oper) (d : Nat), ops[i]? = some o → o.dst = some d → d < 4095) → lg.length = ops.length →
    ((∀ (i : Nat) (o : Oper), ops[i]? = some o → o.dst ≠ some t) ∧ (viewFr b j ops lg k fr).get .unk t = fr.get .unk t) ∨
    (∃ (i : Nat) (o : Oper) (g : Log), ops[i]? = some o ∧ lg[i]? = some g ∧ o.dst = some t ∧ (viewFr b j ops lg k fr).get .unk t = if ahead b j (k + i) then g.r.mv else .unk) ∨
    ∃ (i : Nat) (o : Oper), ops[i]? = some o ∧ o.dst = some t ∧ (ahead b (k + i) j = true ∨ k + i = j) ∧ (viewFr b j ops lg k fr).get .unk t = fr.get .unk t
  | [], [], _, _, _, _ => .inl ⟨fun i o h => by simp at h, rfl⟩
  | [], _ :: _, _, _, _, hl => by simp at hl
  | _ :: _, [], _, _, _, hl => by simp at hl
  | o :: ops, g :: lg, k, fr, hd, hl => by
    have hd' : ∀ (i : Nat) (o : Oper) (d : Nat), ops[i]? = some o → o.dst = some d → d < 4095 := fun i o d h => hd (i + 1) o d (by simpa using h)
    have hl' : lg.length = ops.length := by simpa using hl
    have later : ∀ fr' : Fr, viewFr b j (o :: ops) (g :: lg) k fr = viewFr b j ops lg (k + 1) fr' →
        ((∀ (i : Nat) (o : Oper), ops[i]? = some o → o.dst ≠ some t) ∧ (viewFr b j (o :: ops) (g :: lg) k fr).get .unk t = fr'.get .unk t) ∨
        (∃ (i : Nat) (o' : Oper) (g' : Log), (o :: ops)[i]? = some o' ∧ (g :: lg)[i]? = some g' ∧ o'.dst = some t ∧ (viewFr b j (o :: ops) (g :: lg) k fr).get .unk t = if ahead b j (k + i) then g'.r.mv else .unk) ∨
        ∃ (i : Nat) (o' : Oper), (o :: ops)[i]? = some o' ∧ o'.dst = some t ∧ (ahead b (k + i) j = true ∨ k + i = j) ∧ (viewFr b j (o :: ops) (g :: lg) k fr).get .unk t = fr'.get .unk t := fun fr' e => by
      rw [e]
      rcases viewFr_get (b := b) (j := j) (t := t) (k := k + 1) (fr := fr') hd' hl' with ⟨h1, h2⟩ | ⟨i, o', g', h1, h2, h3, h4⟩ | ⟨i, o', h1, h3, h4, h5⟩
      · exact .inl ⟨h1, h2⟩
      · exact .inr (.inl ⟨i + 1, o', g', by simpa using h1, by simpa using h2, h3, by rw [h4, show k + 1 + i = k + (i + 1) from by omega]⟩)
      · exact .inr (.inr ⟨i + 1, o', by simpa using h1, h3, by rwa [show k + (i + 1) = k + 1 + i from by omega], h5⟩)
    cases ho : o.dst with
    | none =>
      have e : viewFr b j (o :: ops) (g :: lg) k fr = viewFr b j ops lg (k + 1) fr := by simp only [viewFr, ho]
      rcases later fr e with ⟨h1, h2⟩ | h | h
      · refine .inl ⟨fun i o' ho' => ?_, h2⟩
        cases i with
        | zero => simp only [List.getElem?_cons_zero, Option.some.injEq] at ho'; subst ho'; rw [ho]; simp
        | succ i => exact h1 i o' (by simpa using ho')
      · exact .inr (.inl h)
      · exact .inr (.inr h)
    | some d =>
      have hd0 := hd 0 o d rfl ho
      have other : ∀ fr' : Fr, t ≠ d → fr'.get .unk t = fr.get .unk t → viewFr b j (o :: ops) (g :: lg) k fr = viewFr b j ops lg (k + 1) fr' →
          ((∀ (i : Nat) (o' : Oper), (o :: ops)[i]? = some o' → o'.dst ≠ some t) ∧ (viewFr b j (o :: ops) (g :: lg) k fr).get .unk t = fr.get .unk t) ∨
          (∃ (i : Nat) (o' : Oper) (g' : Log), (o :: ops)[i]? = some o' ∧ (g :: lg)[i]? = some g' ∧ o'.dst = some t ∧ (viewFr b j (o :: ops) (g :: lg) k fr).get .unk t = if ahead b j (k + i) then g'.r.mv else .unk) ∨
          ∃ (i : Nat) (o' : Oper), (o :: ops)[i]? = some o' ∧ o'.dst = some t ∧ (ahead b (k + i) j = true ∨ k + i = j) ∧ (viewFr b j (o :: ops) (g :: lg) k fr).get .unk t = fr.get .unk t := fun fr' ht hg e => by
        rcases later fr' e with ⟨h1, h2⟩ | h | ⟨i, o', h1, h2, h3, h4⟩
        · refine .inl ⟨fun i o' ho' => ?_, h2.trans hg⟩
          cases i with
          | zero => simp only [List.getElem?_cons_zero, Option.some.injEq] at ho'; subst ho'; rw [ho]; simpa using fun h => ht h.symm
          | succ i => exact h1 i o' (by simpa using ho')
        · exact .inr (.inl h)
        · exact .inr (.inr ⟨i, o', h1, h2, h3, h4.trans hg⟩)
      cases ha : ahead b j k with
      | true =>
        have e : viewFr b j (o :: ops) (g :: lg) k fr = viewFr b j ops lg (k + 1) (fr.set .unk d g.r.mv) := by simp only [viewFr, ho, ha]
        by_cases ht : t = d
        · subst ht
          have hs : (fr.set .unk t g.r.mv).get .unk t = if ahead b j (k + 0) then g.r.mv else .unk := by rw [Tri.get_set _ _ _ _ hd0, if_pos rfl, Nat.add_zero, ha, if_pos rfl]
          rcases later _ e with ⟨h1, h2⟩ | h | ⟨i, o', h1, h2, h3, h4⟩
          · exact .inr (.inl ⟨0, o, g, rfl, rfl, ho, h2.trans hs⟩)
          · exact .inr (.inl h)
          · exact .inr (.inl ⟨0, o, g, rfl, rfl, ho, h4.trans hs⟩)
        · exact other _ ht (by rw [Tri.get_set _ _ _ _ hd0, if_neg ht]) e
      | false =>
        cases hk : ahead b k j || Nat.beq k j with
        | true =>
          have e : viewFr b j (o :: ops) (g :: lg) k fr = viewFr b j ops lg (k + 1) fr := by simp only [viewFr, ho, ha, hk]
          by_cases ht : t = d
          · subst ht
            have hk' : ahead b (k + 0) j = true ∨ k + 0 = j := by
              rw [Nat.add_zero]
              rw [Bool.or_eq_true] at hk
              exact hk.imp (fun h => h) Nat.eq_of_beq_eq_true
            rcases later _ e with ⟨h1, h2⟩ | h | h
            · exact .inr (.inr ⟨0, o, rfl, ho, hk', h2⟩)
            · exact .inr (.inl h)
            · exact .inr (.inr h)
          · exact other _ ht rfl e
        | false =>
          have e : viewFr b j (o :: ops) (g :: lg) k fr = viewFr b j ops lg (k + 1) (fr.set .unk d .unk) := by simp only [viewFr, ho, ha, hk]
          by_cases ht : t = d
          · subst ht
            have hs : (fr.set .unk t .unk).get .unk t = if ahead b j (k + 0) then g.r.mv else .unk := by rw [Tri.get_set _ _ _ _ hd0, if_pos rfl, Nat.add_zero, ha, if_neg (by simp)]
            rcases later _ e with ⟨h1, h2⟩ | h | ⟨i, o', h1, h2, h3, h4⟩
            · exact .inr (.inl ⟨0, o, g, rfl, rfl, ho, h2.trans hs⟩)
            · exact .inr (.inl h)
            · exact .inr (.inl ⟨0, o, g, rfl, rfl, ho, h4.trans hs⟩)
          · exact other _ ht (by rw [Tri.get_set _ _ _ _ hd0, if_neg ht]) e
theorem viewAll_get {S0 : St} {lg : List Log} {b : List Nat} {j : Nat} : ∀ (l : List Nat) (t : Tri Blk) (y : Nat), (∀ x ∈ l, x < 4095) → (viewAll S0 lg b j l t).get .gone y = if y ∈ l then viewB S0 lg b j y else t.get .gone y
  | [], t, y, _ => by simp [viewAll]
  | x :: r, t, y, h => by
    rw [viewAll, viewAll_get r _ y fun z hz => h z (by simp [hz])]
    by_cases hr : y ∈ r
    · rw [if_pos hr, if_pos (by simp [hr])]
    · rw [if_neg hr, Tri.get_set _ _ _ _ (h x (by simp))]
      by_cases hx : y = x
      · subst hx; rw [if_pos rfl, if_pos (by simp)]
      · rw [if_neg hx, if_neg (by simp [hr, hx])]
theorem mem_belowL {k x : Nat} : ∀ {l : List Nat}, x ∈ belowL k l ↔ x ∈ l ∧ x < k
  | [] => by simp [belowL]
  | y :: r => by
    unfold belowL
    cases h : Nat.blt y k with
    | true =>
      have hy : y < k := by simpa [Nat.blt_eq] using h
      simp only [List.mem_cons, mem_belowL (l := r)]
      refine ⟨fun h => ?_, fun h => ?_⟩
      · rcases h with rfl | h
        · exact ⟨.inl rfl, hy⟩
        · exact ⟨.inr h.1, h.2⟩
      · rcases h.1 with rfl | h1
        · exact .inl rfl
        · exact .inr ⟨h1, h.2⟩
    | false =>
      have hy : ¬ y < k := fun hc => by rw [← Nat.blt_eq] at hc; rw [hc] at h; cases h
      simp only [List.mem_cons, mem_belowL (l := r)]
      refine ⟨fun h => ⟨.inr h.1, h.2⟩, fun h => ?_⟩
      rcases h.1 with rfl | h1
      · exact absurd h.2 hy
      · exact ⟨h1, h.2⟩
theorem mem_fromTo {y : Nat} : ∀ {k x : Nat}, y ∈ fromTo x k ↔ x ≤ y ∧ y < x + k
  | 0, x => ⟨fun h => by simp [fromTo] at h, fun h => by omega⟩
  | k + 1, x => by
    simp only [fromTo, List.mem_cons, mem_fromTo (k := k)]
    omega
theorem touched_of {x : Nat} : ∀ {lg : List Log} {i : Nat}, x ∉ touchedL lg → turnersOf x lg i = []
  | [], _, _ => rfl
  | g :: lg, i, h => by
    simp only [touchedL, List.mem_append, not_or] at h
    unfold turnersOf
    split
    · rename_i b hb
      exact absurd (List.mem_map.2 ⟨_, turned_some hb, rfl⟩) h.1
    · exact touched_of h.2
theorem viewS_get {S0 : St} {lg : List Log} {b : List Nat} {j k : Nat} (hk : k ≤ 4000) (hS : S0.n ≤ k) (hg : ∀ x, S0.n ≤ x → S0.get x = .gone) :
    (viewS S0 lg b j k 0 {}).n = k ∧ ∀ y, (viewS S0 lg b j k 0 {}).get y = if 0 ≤ y ∧ y < k then viewB S0 lg b j y else ({} : St).get y := by
  refine ⟨rfl, fun y => ?_⟩
  show (viewAll S0 lg b j (belowL k (joinD (touchedL lg) []) ++ fromTo S0.n (k - S0.n)) S0.t).get .gone y = _
  rw [viewAll_get]
  · by_cases hy : y < k
    · rw [if_pos (show 0 ≤ y ∧ y < k from ⟨Nat.zero_le _, hy⟩)]
      by_cases hm : y ∈ belowL k (joinD (touchedL lg) []) ++ fromTo S0.n (k - S0.n)
      · rw [if_pos hm]
      · rw [if_neg hm]
        simp only [List.mem_append, mem_belowL, mem_fromTo, not_or, not_and] at hm
        have hlt : y < S0.n := by
          rcases Nat.lt_or_ge y S0.n with h | h
          · exact h
          · exact absurd (show y < S0.n + (k - S0.n) by omega) (hm.2 h)
        have ht : y ∉ touchedL lg := fun h => hm.1 (mem_joinD (.inl h)) hy
        unfold viewB
        rw [touched_of ht]
        simp only
        rw [if_pos (by rw [Nat.blt_eq]; exact hlt)]
        rfl
    · have h1 : ¬ (0 ≤ y ∧ y < k) := fun h => hy h.2
      have h2 : y ∉ belowL k (joinD (touchedL lg) []) ++ fromTo S0.n (k - S0.n) := fun h => by
        simp only [List.mem_append, mem_belowL, mem_fromTo] at h
        rcases h with h | h
        · exact hy h.2
        · omega
      rw [if_neg h1, if_neg h2]
      exact hg y (by omega)
  · intro x hx
    simp only [List.mem_append, mem_belowL, mem_fromTo] at hx
    rcases hx with hx | hx <;> omega
end Sx
end Go.Proofs.Ytigblagodlfedaa
