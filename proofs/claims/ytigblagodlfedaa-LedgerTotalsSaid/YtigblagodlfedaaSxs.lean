/- The symbolic run: regions that draw their order, proved. -/
import Derived.Test.YtigblagodlfedaaSxr
namespace Go.Proofs.Ytigblagodlfedaa
namespace Sx
open Go.RowKit

def baseX (S0 : St) (lg : List Log) (X : Nat → Bool) (x : Nat) : Blk :=
  if x < S0.n then S0.get x else match makerOf x lg 0 with | some (i, m) => if X i = true then m else .gone | none => .gone
/-- What a block is when the operations of X are done. -/
def cur (S0 : St) (lg : List Log) (X : Nat → Bool) (x : Nat) : Blk :=
  match turnersOf x lg 0 with
  | [] => baseX S0 lg X x
  | [(t, m)] => if X t = true then m else baseX S0 lg X x
  | _ => .gone
def LX (L : Nat → Prop) (lg : List Log) (X : Nat → Bool) : Nat → Prop := fun x => L x ∨ ∃ (i : Nat) (g : Log), lg[i]? = some g ∧ X i = true ∧ g.n ≤ x ∧ x < g.stop
/-- What holds while a region is under way, the operations of X done. -/
structure DI (ops : List Oper) (lg : List Log) (l : Leaf) (d : List Nat) (L0 : Nat → Prop) (Γ0 : Ctx) (S0 : St) (w0 : World) (X : Nat → Bool) (Γ : Ctx) (a : Act) (w : World) : Prop where
  lt : ∀ j, L0 j → j < S0.n
  n : S0.n ≤ l.S.n
  br : BR Γ (LX (Sc L0 S0.n l.S.n) lg X) (cur l.S lg X) w
  far : FarG Γ0 Γ S0 (cur l.S lg X) d w0 w
  defers : a.defers = []
  size : l.N ≤ a.tmps.size
  slot0 : ∀ t, (∀ (i : Nat) (o : Oper), ops[i]? = some o → X i = true → o.dst ≠ some t) → (l.fr.get .unk t).rel Γ (a.tmps.getD t undef)
  slot1 : ∀ (i : Nat) (o : Oper) (g : Log) (t : Nat), ops[i]? = some o → lg[i]? = some g → X i = true → o.dst = some t → g.r.mv.rel Γ (a.tmps.getD t undef)
  fron : ∀ t, (l.fr.get .unk t).on (Sc L0 S0.n l.S.n)
  son : ∀ j, (l.S.get j).on (Sc L0 S0.n l.S.n)
  made : ∀ (i : Nat) (g : Log), lg[i]? = some g → X i = true → g.r.mv.on (fun x => LX (Sc L0 S0.n l.S.n) lg X x ∧ x < g.stop) ∧ (∀ b ∈ g.r.new, b.on (fun x => LX (Sc L0 S0.n l.S.n) lg X x ∧ x < g.stop)) ∧
    ∀ p ∈ g.r.upd, p.2.on (fun x => LX (Sc L0 S0.n l.S.n) lg X x ∧ x < g.stop) ∧ p.1 < g.n ∧ LX (Sc L0 S0.n l.S.n) lg X p.1 ∧ (turnersOf p.1 lg 0).length ≤ 1
  closed : ∀ (j : Nat) (o : Oper), ops[j]? = some o → X j = true → ∀ e ∈ o.after, Region.binds .any e = true → X e.on = true
  sgone : ∀ x, l.S.n ≤ x → l.S.get x = .gone
section
variable {ops : List Oper} {lg : List Log} {l l' : Leaf} {d : List Nat} {L0 : Nat → Prop} {Γ0 Γ : Ctx} {S0 : St} {w0 w : World} {X : Nat → Bool} {a : Act}
theorem LX_dis (tr : Trace ops l lg l') (hn : S0.n ≤ l.S.n) (hlt : ∀ j, L0 j → j < S0.n) {j : Nat} {g : Log} (hg : lg[j]? = some g) (hj : X j = false) {x : Nat} (hx : LX (Sc L0 S0.n l.S.n) lg X x) : ¬ (g.n ≤ x ∧ x < g.stop) := by
  rintro ⟨h1, h2⟩
  have hgn := (tr.n.2.1 j g hg).1
  rcases hx with hx | ⟨i, g', h3, h4, h5, h6⟩
  · have := Sc.lt hlt hn x hx; omega
  · by_cases hij : i < j
    · have := tr.n.2.2.1 i j g' g h3 hg hij; omega
    · by_cases hij2 : i = j
      · subst hij2; rw [hj] at h4; cases h4
      · have := tr.n.2.2.1 j i g g' hg h3 (by omega); omega
theorem lg_of_op (tr : Trace ops l lg l') {i : Nat} {o : Oper} (h : ops[i]? = some o) : ∃ g, lg[i]? = some g := by
  have h1 := (List.getElem?_eq_some_iff.1 h).1
  rw [← tr.length] at h1
  exact ⟨lg[i], List.getElem?_eq_getElem h1⟩
theorem op_of_lg (tr : Trace ops l lg l') {i : Nat} {g : Log} (h : lg[i]? = some g) : ∃ o, ops[i]? = some o := by
  have h1 := (List.getElem?_eq_some_iff.1 h).1
  rw [tr.length] at h1
  exact ⟨ops[i], List.getElem?_eq_getElem h1⟩
/-- A block as one operation sees it is what it is now, or is not seen. -/
theorem viewB_cur (tr : Trace ops l lg l') (hcl : ∀ (j : Nat) (o : Oper), ops[j]? = some o → X j = true → ∀ e ∈ o.after, Region.binds .any e = true → X e.on = true)
    {j : Nat} {o : Oper} (ho : ops[j]? = some o) (hj : X j = false) (hr : ∀ e ∈ o.after, Region.binds .any e = true → X e.on = true) {x : Nat} (hg : ¬ (viewB l.S lg (beforeM ops) j x).Gone) :
    viewB l.S lg (beforeM ops) j x = cur l.S lg X x ∧ (turnersOf x lg 0).length ≤ 1 := by
  have hah : ∀ i, ahead (beforeM ops) j i = true → X i = true := fun i hi => ahead_in hcl ho hr hi
  have hmade : ∀ v : Blk, v = (if Nat.blt x l.S.n then l.S.get x else match makerOf x lg 0 with | some (i, m) => if ahead (beforeM ops) j i then m else .gone | none => .gone) → ¬ v.Gone → v = baseX l.S lg X x := fun v hv hvg => by
    unfold baseX
    by_cases hx : x < l.S.n
    · rw [if_pos (by rw [Nat.blt_eq]; exact hx)] at hv
      rw [if_pos hx, hv]
    · rw [if_neg (by rw [Nat.blt_eq]; exact hx)] at hv
      rw [if_neg hx]
      cases hm : makerOf x lg 0 with
      | none => rw [hm] at hv; exact absurd hv hvg
      | some t =>
        obtain ⟨i, m⟩ := t
        rw [hm] at hv
        simp only at hv ⊢
        by_cases hi : ahead (beforeM ops) j i = true
        · rw [if_pos hi] at hv; rw [if_pos (hah i hi), hv]
        · rw [if_neg hi] at hv; exact absurd hv hvg
  unfold viewB at hg ⊢
  unfold cur
  simp only at hg ⊢
  split at hg
  · rename_i ht
    simp only [ht]
    exact ⟨hmade _ rfl hg, by simp⟩
  · rename_i t m ht
    simp only [ht]
    refine ⟨?_, by simp⟩
    by_cases h1 : ahead (beforeM ops) j t = true
    · rw [if_pos h1, if_pos (hah t h1)]
    · rw [if_neg h1] at hg ⊢
      by_cases h2 : (Nat.beq t j || ahead (beforeM ops) t j) = true
      · rw [if_pos h2] at hg ⊢
        have hXt : ¬ X t = true := by
          intro hXt
          rw [Bool.or_eq_true] at h2
          rcases h2 with h2 | h2
          · have := Nat.eq_of_beq_eq_true h2
            subst this
            rw [hj] at hXt; cases hXt
          · obtain ⟨i, g, h3, h4, _⟩ := turnersOf_mem (x := x) (lg := lg) (k := 0) (t := (t, m)) (by rw [ht]; simp)
            obtain ⟨o', ho'⟩ := op_of_lg tr h3
            have hti : t = i := by simpa using h4
            subst hti
            have := ahead_in hcl ho' (hcl t o' ho' hXt) h2
            rw [hj] at this; cases this
        rw [if_neg hXt]
        exact hmade _ rfl hg
      · rw [if_neg h2] at hg; exact absurd rfl hg
  · exact absurd rfl hg
/-- What it names, it could name. -/
theorem viewB_on (tr : Trace ops l lg l') (h : DI ops lg l d L0 Γ0 S0 w0 X Γ a w) {j : Nat} {o : Oper} {g : Log} (ho : ops[j]? = some o) (hgj : lg[j]? = some g) (hr : ∀ e ∈ o.after, Region.binds .any e = true → X e.on = true) (x : Nat) :
    (viewB l.S lg (beforeM ops) j x).on (fun x => LX (Sc L0 S0.n l.S.n) lg X x ∧ x < g.n) := by
  have hah : ∀ i, ahead (beforeM ops) j i = true → X i = true := fun i hi => ahead_in h.closed ho hr hi
  have hgn := (tr.n.2.1 j g hgj).1
  have fromI : ∀ (i : Nat) (q : Log) (b : Blk), lg[i]? = some q → ahead (beforeM ops) j i = true → b.on (fun x => LX (Sc L0 S0.n l.S.n) lg X x ∧ x < q.stop) → b.on (fun x => LX (Sc L0 S0.n l.S.n) lg X x ∧ x < g.n) := fun i q b hq hi hb => by
    have := tr.n.2.2.1 i j q g hq hgj (ahead_lt hi)
    exact Blk.on_mono (fun y hy => ⟨hy.1, by omega⟩) hb
  have hmade : (if Nat.blt x l.S.n then l.S.get x else match makerOf x lg 0 with | some (i, m) => if ahead (beforeM ops) j i then m else .gone | none => .gone : Blk).on (fun x => LX (Sc L0 S0.n l.S.n) lg X x ∧ x < g.n) := by
    split
    · exact Blk.on_mono (fun y hy => ⟨.inl hy, by have := Sc.lt h.lt h.n y hy; omega⟩) (h.son x)
    · split
      · rename_i i m hm
        split
        · rename_i hi
          obtain ⟨i', q, h1, h2, _, _, h3⟩ := makerOf_some hm
          have hii : i = i' := by simpa using h2
          subst hii
          simp only at h3
          by_cases hmg : m.Gone
          · rw [hmg]; trivial
          · rw [h3] at hmg ⊢
            exact fromI i q _ h1 hi ((h.made i q h1 (hah i hi)).2.1 _ (getD_mem hmg).2)
        · trivial
      · trivial
  unfold viewB
  simp only
  split
  · exact hmade
  · rename_i t m ht
    split
    · rename_i hi
      obtain ⟨i', q, h1, h2, h3⟩ := turnersOf_mem (x := x) (lg := lg) (k := 0) (t := (t, m)) (by rw [ht]; simp)
      have hii : t = i' := by simpa using h2
      subst hii
      exact fromI t q _ h1 hi ((h.made t q h1 (hah t hi)).2.2 _ (turned_some h3)).1
    · split
      · exact hmade
      · trivial
  · trivial
theorem cur_next (tr : Trace ops l lg l') (h : DI ops lg l d L0 Γ0 S0 w0 X Γ a w) {j : Nat} {g : Log} (hgj : lg[j]? = some g) (hj : X j = false) {V : St} (hVn : V.n = g.n) (hup : ∀ p ∈ g.r.upd, p.1 < g.n)
    {X' : Nat → Bool} (hX' : ∀ i, X' i = (X i || decide (i = j))) : Next' V g.r (cur l.S lg X) (cur l.S lg X') := by
  intro x
  rw [hVn]
  have hX'j : X' j = true := by rw [hX']; simp
  have hne : ∀ i, i ≠ j → X' i = X i := fun i hi => by rw [hX']; simp [hi]
  have hgn := (tr.n.2.1 j g hgj).1
  have hbase : ¬ (g.n ≤ x ∧ x < g.stop) → baseX l.S lg X' x = baseX l.S lg X x := fun hc => by
    unfold baseX
    by_cases hx : x < l.S.n
    · rw [if_pos hx, if_pos hx]
    · rw [if_neg hx, if_neg hx]
      cases hm : makerOf x lg 0 with
      | none => rfl
      | some t =>
        obtain ⟨i, m⟩ := t
        simp only
        obtain ⟨i', q, h1, h2, h3, h4, _⟩ := makerOf_some hm
        have hii : i = i' := by simpa using h2
        subst hii
        have : i ≠ j := by
          intro hij; subst hij
          rw [hgj] at h1; cases h1
          exact hc ⟨h3, h4⟩
        rw [hne i this]
  by_cases hc : g.n ≤ x ∧ x < g.stop
  · refine .inl ⟨hc, ?_⟩
    have hbx : baseX l.S lg X' x = g.r.new.getD (x - g.n) .gone := by
      unfold baseX
      rw [if_neg (by omega)]
      cases hm : makerOf x lg 0 with
      | none => exact absurd hc (makerOf_none hm j g hgj)
      | some t =>
        obtain ⟨i, m⟩ := t
        obtain ⟨i', q, h1, h2, h3, h4, h5⟩ := makerOf_some hm
        have hii : i = i' := by simpa using h2
        subst hii
        have hij : i = j := by
          rcases Nat.lt_trichotomy i j with hlt | heq | hgt
          · have := tr.n.2.2.1 i j q g h1 hgj hlt; omega
          · exact heq
          · have := tr.n.2.2.1 j i g q hgj h1 hgt; omega
        subst hij
        rw [hgj] at h1; cases h1
        simp only at h5 ⊢
        rw [if_pos hX'j, h5]
    unfold cur
    split
    · exact .inr hbx
    · rename_i t m ht
      obtain ⟨i', q, h1, h2, h3⟩ := turnersOf_mem (x := x) (lg := lg) (k := 0) (t := (t, m)) (by rw [ht]; simp)
      have hii : t = i' := by simpa using h2
      subst hii
      have hXt : ¬ X' t = true := by
        intro hXt
        by_cases htj : t = j
        · subst htj
          rw [hgj] at h1; cases h1
          have := hup _ (turned_some h3)
          simp only at this; omega
        · rw [hne t htj] at hXt
          exact LX_dis tr h.n h.lt hgj hj ((h.made t q h1 hXt).2.2 _ (turned_some h3)).2.2.1 hc
      rw [if_neg hXt]
      exact .inr hbx
    · exact .inl rfl
  · refine .inr ⟨hc, ?_⟩
    cases htu : turned x g.r.upd with
    | some b =>
      refine .inl ⟨(x, b), turned_some htu, rfl, ?_⟩
      have hmem := turnersOf_has (k := 0) hgj htu
      unfold cur
      split
      · rename_i ht; rw [ht] at hmem; simp at hmem
      · rename_i t m ht
        rw [ht] at hmem
        simp only [Nat.zero_add, List.mem_singleton, Prod.mk.injEq] at hmem
        obtain ⟨e1, e2⟩ := hmem
        subst e1 e2
        rw [if_pos hX'j]
        exact .inr rfl
      · exact .inl rfl
    | none =>
      refine .inr ⟨turned_none htu, .inr ?_⟩
      unfold cur
      split
      · exact hbase hc
      · rename_i t m ht
        obtain ⟨i', q, h1, h2, h3⟩ := turnersOf_mem (x := x) (lg := lg) (k := 0) (t := (t, m)) (by rw [ht]; simp)
        have hii : t = i' := by simpa using h2
        subst hii
        have htj : t ≠ j := by
          intro htj; subst htj
          rw [hgj] at h1; cases h1
          rw [htu] at h3; cases h3
        rw [hne t htj, hbase hc]
      · rfl
end
end Sx
end Go.Proofs.Ytigblagodlfedaa
