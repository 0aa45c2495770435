/- The symbolic run: regions that draw their order; what the check and the logs tell. -/
import Derived.Test.YtigblagodlfedaaSxo
import Derived.Orders
namespace Go.Proofs.Ytigblagodlfedaa
namespace Sx
open Go.RowKit

/-! ### Who stands ahead -/
theorem maskE_bit {prev : List Nat} {i : Nat} : ∀ {es : List Edge}, (maskE prev es).testBit i = true → ∃ e ∈ es, Region.binds .any e = true ∧ (e.on = i ∨ (prev.getD e.on 0).testBit i = true)
  | [], h => by simp [maskE] at h
  | e :: es, h => by
    simp only [maskE] at h
    split at h
    · rename_i hb
      rw [Nat.testBit_or, Nat.testBit_or, Nat.testBit_two_pow, Bool.or_eq_true, Bool.or_eq_true, decide_eq_true_iff] at h
      rcases h with (h | h) | h
      · exact ⟨e, by simp, hb, .inl h⟩
      · exact ⟨e, by simp, hb, .inr h⟩
      · obtain ⟨e', h1, h2⟩ := maskE_bit h
        exact ⟨e', by simp [h1], h2⟩
    · obtain ⟨e', h1, h2⟩ := maskE_bit h
      exact ⟨e', by simp [h1], h2⟩
theorem masksM_pre : ∀ (ops : List Oper) (p : List Nat), ∃ q, masksM ops p = p ++ q
  | [], p => ⟨[], by simp [masksM]⟩
  | o :: r, p => by
    obtain ⟨q, hq⟩ := masksM_pre r (p ++ [maskE p o.after.toList])
    exact ⟨maskE p o.after.toList :: q, by rw [masksM, hq]; simp⟩
theorem masksM_bit {i : Nat} : ∀ (ops : List Oper) (p : List Nat) (k : Nat) (o : Oper), ops[k]? = some o → ((masksM ops p).getD (p.length + k) 0).testBit i = true →
    ∃ e ∈ o.after.toList, Region.binds .any e = true ∧ (e.on = i ∨ (e.on < p.length + k ∧ ((masksM ops p).getD e.on 0).testBit i = true))
  | [], _, _, _, h, _ => by simp at h
  | o :: r, p, 0, o', h, hb => by
    simp only [List.getElem?_cons_zero, Option.some.injEq] at h
    subst h
    obtain ⟨q, hq⟩ := masksM_pre r (p ++ [maskE p o.after.toList])
    simp only [masksM, hq, Nat.add_zero] at hb ⊢
    have e1 : (p ++ [maskE p o.after.toList] ++ q).getD p.length 0 = maskE p o.after.toList := by simp
    rw [e1] at hb
    obtain ⟨e, h1, h2, h3⟩ := maskE_bit hb
    refine ⟨e, h1, h2, h3.imp id fun h3 => ?_⟩
    have hlt : e.on < p.length := by
      rcases Nat.lt_or_ge e.on p.length with h | h
      · exact h
      · rw [List.getD_eq_getElem?_getD, List.getElem?_eq_none h] at h3; simp at h3
    refine ⟨hlt, ?_⟩
    have e2 : (p ++ [maskE p o.after.toList] ++ q).getD e.on 0 = p.getD e.on 0 := by
      rw [List.append_assoc, List.getD_eq_getElem?_getD, List.getD_eq_getElem?_getD, List.getElem?_append_left hlt]
    rw [e2]; exact h3
  | o :: r, p, k + 1, o', h, hb => by
    simp only [List.getElem?_cons_succ] at h
    simp only [masksM] at hb ⊢
    have := masksM_bit r (p ++ [maskE p o.after.toList]) k o' h (by simpa [Nat.add_assoc, Nat.add_comm 1 k] using hb)
    simpa [Nat.add_assoc, Nat.add_comm 1 k] using this
theorem ahead_lt {b : List Nat} {j i : Nat} (h : ahead b j i = true) : i < j := by
  unfold ahead at h
  rw [Bool.and_eq_true, Nat.blt_eq] at h
  exact h.1
/-- What is closed under the edges that bind has all that stand ahead of what may come next. -/
theorem ahead_closed {ops : List Oper} {X : Nat → Bool} (hX : ∀ j o, ops[j]? = some o → X j = true → ∀ e ∈ o.after, Region.binds .any e = true → X e.on = true) :
    ∀ (n j : Nat) (o : Oper), j < n → ops[j]? = some o → (∀ e ∈ o.after, Region.binds .any e = true → X e.on = true) → ∀ i, ((beforeM ops).getD j 0).testBit i = true → X i = true
  | 0, _, _, h, _, _, _, _ => by omega
  | n + 1, j, o, hj, ho, ha, i, hb => by
    unfold beforeM at hb
    obtain ⟨e, h1, h2, h3⟩ := masksM_bit ops [] j o ho (by simpa using hb)
    have hXe := ha e (by simpa using h1) h2
    rcases h3 with h3 | ⟨h3, h4⟩
    · rw [← h3]; exact hXe
    · simp only [List.length_nil, Nat.zero_add] at h3
      have hlt : e.on < ops.length := by have := (List.getElem?_eq_some_iff.1 ho).1; omega
      exact ahead_closed hX n e.on ops[e.on] (by omega) (List.getElem?_eq_getElem hlt) (hX e.on _ (List.getElem?_eq_getElem hlt) hXe) i h4
theorem ahead_in {ops : List Oper} {X : Nat → Bool} (hX : ∀ j o, ops[j]? = some o → X j = true → ∀ e ∈ o.after, Region.binds .any e = true → X e.on = true) {j : Nat} {o : Oper} (ho : ops[j]? = some o)
    (ha : ∀ e ∈ o.after, Region.binds .any e = true → X e.on = true) {i : Nat} (h : ahead (beforeM ops) j i = true) : X i = true := by
  unfold ahead at h
  rw [Bool.and_eq_true] at h
  exact ahead_closed hX (j + 1) j o (by omega) ho ha i h.2
theorem backB_spec : ∀ {ops : List Oper} {k : Nat}, backB k ops = true → ∀ (j : Nat) (o : Oper), ops[j]? = some o → ∀ e ∈ o.after, Region.binds .any e = true → e.on < k + j
  | [], _, _, j, o, h, _, _, _ => by simp at h
  | o :: r, k, hB, 0, o', h, e, he, hb => by
    simp only [backB, Bool.and_eq_true, List.all_eq_true] at hB
    simp only [List.getElem?_cons_zero, Option.some.injEq] at h
    subst h
    have := hB.1 e (by simpa using he)
    simp only [hb, Bool.not_true, Bool.false_or, Nat.blt_eq] at this
    omega
  | o :: r, k, hB, j + 1, o', h, e, he, hb => by
    simp only [backB, Bool.and_eq_true] at hB
    simp only [List.getElem?_cons_succ] at h
    have := backB_spec hB.2 j o' h e he hb
    omega
theorem offB_spec {d : Nat} : ∀ {ops : List Oper}, offB d ops = true → ∀ (j : Nat) (o : Oper), ops[j]? = some o → o.dst ≠ some d
  | [], _, j, o, h => by simp at h
  | o :: r, hB, 0, o', h => by
    simp only [offB, Bool.and_eq_true] at hB
    simp only [List.getElem?_cons_zero, Option.some.injEq] at h
    subst h
    intro hd
    have h1 := hB.1
    simp only [hd] at h1
    simp at h1
  | o :: r, hB, j + 1, o', h => by
    simp only [offB, Bool.and_eq_true] at hB
    exact offB_spec hB.2 j o' (by simpa using h)
theorem apartB'_spec : ∀ {ops : List Oper}, apartB' ops = true → ∀ (i k : Nat) (oi ok : Oper) (d : Nat), ops[i]? = some oi → ops[k]? = some ok → oi.dst = some d → ok.dst = some d → i = k
  | [], _, i, k, oi, ok, d, h, _, _, _ => by simp at h
  | o :: r, hB, i, k, oi, ok, d, hi, hk, hdi, hdk => by
    simp only [apartB', Bool.and_eq_true] at hB
    cases i with
    | zero =>
      cases k with
      | zero => rfl
      | succ k =>
        simp only [List.getElem?_cons_zero, Option.some.injEq, List.getElem?_cons_succ] at hi hk
        subst hi
        have h1 := hB.1
        simp only [hdi] at h1
        exact absurd hdk (offB_spec h1 k ok hk)
    | succ i =>
      cases k with
      | zero =>
        simp only [List.getElem?_cons_zero, Option.some.injEq, List.getElem?_cons_succ] at hi hk
        subst hk
        have h1 := hB.1
        simp only [hdk] at h1
        exact absurd hdi (offB_spec h1 i oi hi)
      | succ k =>
        simp only [List.getElem?_cons_succ] at hi hk
        rw [apartB'_spec hB.2 i k oi ok d hi hk hdi hdk]

/-! ### The logs -/
inductive Trace : List Oper → Leaf → List Log → Leaf → Prop where
  | nil {l : Leaf} : Trace [] l [] l
  | on {o : Oper} {ops : List Oper} {l l' : Leaf} {lg : List Log} {r : Res} {g : Facts} (hf : fits l o r = true)
      (t : Trace ops { l with fr := putM l.fr o.dst r.mv, S := l.S.app r, fs := g, d := r.upd.map (·.1) ++ l.d } lg l') : Trace (o :: ops) l (⟨true, l.S.n, r, l.fr, l.S, l.fs⟩ :: lg) l'
  | off {o : Oper} {ops : List Oper} {l l' : Leaf} {lg : List Log} (hf : fits l o { mv := .und } = true)
      (t : Trace ops { l with fr := putM l.fr o.dst .und } lg l') : Trace (o :: ops) l (⟨false, l.S.n, { mv := .und }, .e, {}, l.fs⟩ :: lg) l'
  | facts {ops : List Oper} {l l' : Leaf} {lg : List Log} {g : Facts} (t : Trace ops { l with fs := g } lg l') : Trace ops l lg l'
theorem Leads.trans {ρ : Val} {a b c : Tr} (h : Leads ρ a b) (k : Leads ρ b c) : Leads ρ a c :=
  ⟨fun hc => h.1 (k.1 hc), fun l hl => by
    obtain ⟨l1, e1, e2⟩ := h.2 l hl
    obtain ⟨l2, e3, e4⟩ := k.2 l1 e1
    exact ⟨l2, e3, e4.1.trans e2.1, fun h => e4.2.1 (e2.2.1 h), fun L0 Γ0 S0 w0 Γ a w hρ h => e4.2.2 L0 Γ0 S0 w0 Γ a w hρ (e2.2.2 L0 Γ0 S0 w0 Γ a w hρ h)⟩⟩
theorem CT.at_of {ρ : Val} : ∀ {t : CT}, t.ok ρ → t.sure ρ → ∃ r g, t.at ρ = some (r, g) ∧ g.hold ρ
  | .leaf r g, _, h => ⟨r, g, rfl, h⟩
  | .br _ e t f, h, hs => by
    have hs := hs.2
    simp only [CT.ok, CT.at] at h ⊢
    by_cases hc : E.T ρ e = true
    · simp only [if_pos hc] at h hs ⊢; exact CT.at_of h hs
    · simp only [if_neg hc] at h hs ⊢; exact CT.at_of h hs
  | .dead, _, h => h.elim
  | .fail _, h, _ => h.elim
/-- How an operation was run. -/
def Log.Ran (P : Program) (bs : Bds) (call : Callee) (ρ : Val) (o : Oper) (g : Log) : Prop :=
  g.fs.hold ρ ∧ (g.on = true → ∃ T q, stepM P bs call g.fs g.fr g.S o.op = .ct T ∧ T.ok ρ ∧ T.at ρ = some (g.r, q))
def AllRan (P : Program) (bs : Bds) (call : Callee) (ρ : Val) (ops : List Oper) (lg : List Log) : Prop :=
  ∀ (i : Nat) (o : Oper) (g : Log), ops[i]? = some o → lg[i]? = some g → g.Ran P bs call ρ o
theorem AllRan.cons {P : Program} {bs : Bds} {call : Callee} {ρ : Val} {o : Oper} {ops : List Oper} {g : Log} {lg : List Log} (h : g.Ran P bs call ρ o) (t : AllRan P bs call ρ ops lg) : AllRan P bs call ρ (o :: ops) (g :: lg) := by
  intro i o' g' h1 h2
  cases i with
  | zero =>
    simp only [List.getElem?_cons_zero, Option.some.injEq] at h1 h2
    subst h1 h2
    exact h
  | succ i => exact t i o' g' (by simpa using h1) (by simpa using h2)
theorem runOps_trace {P : Program} {bs : Bds} {call : Callee} {keep : Bool} {all : List Oper} {fin : Leaf → List Log → Tr} {ρ : Val} (hcall : Callee.Sure bs call) (hb : bs.hold ρ) :
    ∀ (n : Nat) (ops : List Oper) (l : Leaf) (lg : List Log), l.fs.hold ρ → (runOps P bs call keep all fin n ops l lg).ok ρ →
      ∃ lg1 l', Trace ops l lg1 l' ∧ l'.fs.hold ρ ∧ AllRan P bs call ρ ops lg1 ∧ Leads ρ (fin l' (lg1.reverse ++ lg)) (runOps P bs call keep all fin n ops l lg)
  | 0, _, _, _, _, hok => hok.elim
  | n + 1, ops, l, lg, hf, hok => by
    unfold runOps at hok ⊢
    split at hok
    · exact ⟨[], l, .nil, hf, fun _ _ _ h => absurd h (by simp), fun h => h, fun l hl => ⟨l, hl, Le.refl ρ l⟩⟩
    · rename_i o rest
      split at hok
      · rename_i hw
        split at hok
        · rename_i t ht
          have hts := stepM_sure hcall ht hb hf
          have hbl := CT.bind_leads (keep := keep) (f := fun r g => match fits l o r with
            | false => Tr.fail 113
            | true => runOps P bs call keep all fin n rest { l with fr := putM l.fr o.dst r.mv, S := l.S.app r, fs := g, d := r.upd.map (·.1) ++ l.d } (⟨true, l.S.n, r, l.fr, l.S, l.fs⟩ :: lg)) t hts
          obtain ⟨r, g, hat, hg⟩ := CT.at_of (hbl.1 hok) hts
          have hl := hbl.2 r g hat
          have hok' := hl.1 hok
          cases hfit : fits l o r with
          | false => simp only [hfit] at hok'; exact hok'.elim
          | true =>
            simp only [hfit] at hok' hl
            obtain ⟨lg1, l', h1, h2, hA, h3⟩ := runOps_trace hcall hb n rest _ _ (by exact hg) hok'
            refine ⟨⟨true, l.S.n, r, l.fr, l.S, l.fs⟩ :: lg1, l', .on hfit h1, h2, .cons ⟨hf, fun _ => ⟨t, g, ht, hbl.1 hok, hat⟩⟩ hA, ?_⟩
            rw [List.reverse_cons, List.append_assoc, List.singleton_append]
            exact h3.trans hl
        · rename_i e ht
          obtain ⟨g, hg, hl⟩ := fork_leads (keep := keep) (e := e) hb hf (fun g => runOps P bs call keep all fin n (o :: rest) { l with fs := g } lg)
          obtain ⟨lg1, l', h1, h2, hA, h3⟩ := runOps_trace hcall hb n (o :: rest) _ lg (by exact hg) (hl.1 hok)
          exact ⟨lg1, l', .facts h1, h2, hA, h3.trans hl⟩
      · rename_i hw
        cases hfit : fits l o { mv := .und } with
        | false => simp only [hfit] at hok; exact hok.elim
        | true =>
          simp only [hfit] at hok
          obtain ⟨lg1, l', h1, h2, hA, h3⟩ := runOps_trace hcall hb n rest _ _ (by exact hf) hok
          exact ⟨⟨false, l.S.n, { mv := .und }, .e, {}, l.fs⟩ :: lg1, l', .off hfit h1, h2, .cons ⟨hf, fun h => by cases h⟩ hA, by simpa using h3⟩
      · rename_i e hw
        obtain ⟨g, hg, hl⟩ := fork_leads (keep := keep) (e := e) hb hf (fun g => runOps P bs call keep all fin n (o :: rest) { l with fs := g } lg)
        obtain ⟨lg1, l', h1, h2, hA, h3⟩ := runOps_trace hcall hb n (o :: rest) _ lg (by exact hg) (hl.1 hok)
        exact ⟨lg1, l', .facts h1, h2, hA, h3.trans hl⟩
      · exact hok.elim
end Sx
end Go.Proofs.Ytigblagodlfedaa
