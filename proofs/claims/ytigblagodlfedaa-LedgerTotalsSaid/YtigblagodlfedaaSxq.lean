/- The symbolic run: regions that draw their order; what the logs tell of frames and blocks. -/
import Derived.Test.YtigblagodlfedaaSxp
namespace Go.Proofs.Ytigblagodlfedaa
namespace Sx
open Go.RowKit

def Log.stop (g : Log) : Nat := g.n + g.r.new.length
theorem Trace.length {ops : List Oper} {l l' : Leaf} {lg : List Log} (h : Trace ops l lg l') : lg.length = ops.length := by
  induction h with
  | nil => rfl
  | on _ _ ih => simp [ih]
  | off _ _ ih => simp [ih]
  | facts _ ih => exact ih
theorem Trace.same {ops : List Oper} {l l' : Leaf} {lg : List Log} (h : Trace ops l lg l') : l'.N = l.N ∧ l'.ex = l.ex := by
  induction h with
  | nil => exact ⟨rfl, rfl⟩
  | on _ _ ih => exact ih
  | off _ _ ih => exact ih
  | facts _ ih => exact ih
theorem Trace.n {ops : List Oper} {l l' : Leaf} {lg : List Log} (h : Trace ops l lg l') : l.S.n ≤ l'.S.n ∧ (∀ (i : Nat) (g : Log), lg[i]? = some g → l.S.n ≤ g.n ∧ g.stop ≤ l'.S.n ∧ g.stop ≤ 4000) ∧
    (∀ (i k : Nat) (g g' : Log), lg[i]? = some g → lg[k]? = some g' → i < k → g.stop ≤ g'.n) ∧ (∀ x, l.S.n ≤ x → x < l'.S.n → ∃ (i : Nat) (g : Log), lg[i]? = some g ∧ g.n ≤ x ∧ x < g.stop) := by
  induction h with
  | nil => exact ⟨Nat.le_refl _, fun i g h => by simp at h, fun i k g g' h => by simp at h, fun x h1 h2 => by omega⟩
  | @on o ops l l' lg r g hf t ih =>
    obtain ⟨h1, h2, h3, h4⟩ := ih
    obtain ⟨_, hn⟩ := fits_spec hf
    have e : (l.S.app r).n = l.S.n + r.new.length := St.n_app _ _
    simp only [e] at h1 h2 h4
    refine ⟨by omega, fun i q hq => ?_, fun i k q q' hq hq' hik => ?_, fun x hx1 hx2 => ?_⟩
    · cases i with
      | zero => simp only [List.getElem?_cons_zero, Option.some.injEq] at hq; subst hq; exact ⟨Nat.le_refl _, h1, hn⟩
      | succ i => have := h2 i q (by simpa using hq); exact ⟨by omega, this.2⟩
    · cases k with
      | zero => omega
      | succ k =>
        cases i with
        | zero =>
          simp only [List.getElem?_cons_zero, Option.some.injEq] at hq
          subst hq
          exact (h2 k q' (by simpa using hq')).1
        | succ i => exact h3 i k q q' (by simpa using hq) (by simpa using hq') (by omega)
    · by_cases hx : x < l.S.n + r.new.length
      · exact ⟨0, _, rfl, hx1, hx⟩
      · obtain ⟨i, q, hq, h5⟩ := h4 x (by omega) hx2
        exact ⟨i + 1, q, by simpa using hq, h5⟩
  | @off o ops l l' lg hf t ih =>
    obtain ⟨h1, h2, h3, h4⟩ := ih
    obtain ⟨_, hn⟩ := fits_spec hf
    simp only [List.length_nil, Nat.add_zero] at hn
    refine ⟨h1, fun i q hq => ?_, fun i k q q' hq hq' hik => ?_, fun x hx1 hx2 => ?_⟩
    · cases i with
      | zero => simp only [List.getElem?_cons_zero, Option.some.injEq] at hq; subst hq; exact ⟨Nat.le_refl _, by simpa [Log.stop] using h1, by simpa [Log.stop] using hn⟩
      | succ i => exact h2 i q (by simpa using hq)
    · cases k with
      | zero => omega
      | succ k =>
        cases i with
        | zero =>
          simp only [List.getElem?_cons_zero, Option.some.injEq] at hq
          subst hq
          simpa [Log.stop] using (h2 k q' (by simpa using hq')).1
        | succ i => exact h3 i k q q' (by simpa using hq) (by simpa using hq') (by omega)
    · obtain ⟨i, q, hq, h5⟩ := h4 x hx1 hx2
      exact ⟨i + 1, q, by simpa using hq, h5⟩
  | facts _ ih => exact ih
theorem Trace.dst {ops : List Oper} {l l' : Leaf} {lg : List Log} (h : Trace ops l lg l') : ∀ (i : Nat) (o : Oper) (d : Nat), ops[i]? = some o → o.dst = some d → d < l.N := by
  induction h with
  | nil => intro i o d h; simp at h
  | on hf _ ih =>
    intro i o d h hd
    cases i with
    | zero => simp only [List.getElem?_cons_zero, Option.some.injEq] at h; subst h; exact (fits_spec hf).1 d hd
    | succ i => exact ih i o d (by simpa using h) hd
  | off hf _ ih =>
    intro i o d h hd
    cases i with
    | zero => simp only [List.getElem?_cons_zero, Option.some.injEq] at h; subst h; exact (fits_spec hf).1 d hd
    | succ i => exact ih i o d (by simpa using h) hd
  | facts _ ih => exact ih
theorem putM_get {fr : Fr} {dst : Option Nat} {m : MV} (t : Nat) (h : ∀ d, dst = some d → d < 4095) : (putM fr dst m).get .unk t = if dst = some t then m else fr.get .unk t := by
  cases dst with
  | none => simp [putM]
  | some d =>
    rw [putM, Tri.get_set _ _ _ _ (h d rfl)]
    by_cases hd : t = d
    · subst hd; rw [if_pos rfl, if_pos rfl]
    · rw [if_neg hd, if_neg (by simpa using fun h => hd h.symm)]
/-- What a slot has at the end. -/
theorem Trace.fr {ops : List Oper} {l l' : Leaf} {lg : List Log} (h : Trace ops l lg l') (hN : l.N ≤ 4000) (t : Nat) :
    (∃ (i : Nat) (o : Oper) (g : Log), ops[i]? = some o ∧ lg[i]? = some g ∧ o.dst = some t ∧ l'.fr.get .unk t = g.r.mv) ∨ ((∀ (i : Nat) (o : Oper), ops[i]? = some o → o.dst ≠ some t) ∧ l'.fr.get .unk t = l.fr.get .unk t) := by
  induction h with
  | nil => exact .inr ⟨fun i o h => by simp at h, rfl⟩
  | @on o ops l l' lg r g hf tr ih =>
    have hN : l.N ≤ 4000 := hN
    rcases ih hN with ⟨i, o', q, h1, h2, h3, h4⟩ | ⟨h1, h2⟩
    · exact .inl ⟨i + 1, o', q, by simpa using h1, by simpa using h2, h3, h4⟩
    · rw [putM_get t fun d hd => Nat.lt_of_lt_of_le ((fits_spec hf).1 d hd) (Nat.le_trans hN (by omega))] at h2
      by_cases hd : o.dst = some t
      · rw [if_pos hd] at h2
        exact .inl ⟨0, o, _, rfl, rfl, hd, h2⟩
      · rw [if_neg hd] at h2
        refine .inr ⟨fun i o' ho' => ?_, h2⟩
        cases i with
        | zero => simp only [List.getElem?_cons_zero, Option.some.injEq] at ho'; subst ho'; exact hd
        | succ i => exact h1 i o' (by simpa using ho')
  | @off o ops l l' lg hf tr ih =>
    have hN : l.N ≤ 4000 := hN
    rcases ih hN with ⟨i, o', q, h1, h2, h3, h4⟩ | ⟨h1, h2⟩
    · exact .inl ⟨i + 1, o', q, by simpa using h1, by simpa using h2, h3, h4⟩
    · rw [putM_get t fun d hd => Nat.lt_of_lt_of_le ((fits_spec hf).1 d hd) (Nat.le_trans hN (by omega))] at h2
      by_cases hd : o.dst = some t
      · rw [if_pos hd] at h2
        exact .inl ⟨0, o, _, rfl, rfl, hd, h2⟩
      · rw [if_neg hd] at h2
        refine .inr ⟨fun i o' ho' => ?_, h2⟩
        cases i with
        | zero => simp only [List.getElem?_cons_zero, Option.some.injEq] at ho'; subst ho'; exact hd
        | succ i => exact h1 i o' (by simpa using ho')
  | facts _ ih => exact ih hN
theorem Trace.d {ops : List Oper} {l l' : Leaf} {lg : List Log} (h : Trace ops l lg l') : (∀ x ∈ l.d, x ∈ l'.d) ∧ ∀ (i : Nat) (g : Log), lg[i]? = some g → ∀ p ∈ g.r.upd, p.1 ∈ l'.d := by
  induction h with
  | nil => exact ⟨fun _ h => h, fun i g h => by simp at h⟩
  | on hf _ ih =>
    refine ⟨fun x hx => ih.1 x (List.mem_append.2 (.inr hx)), fun i q hq p hp => ?_⟩
    cases i with
    | zero =>
      simp only [List.getElem?_cons_zero, Option.some.injEq] at hq; subst hq
      exact ih.1 _ (List.mem_append.2 (.inl (List.mem_map.2 ⟨p, hp, rfl⟩)))
    | succ i => exact ih.2 i q (by simpa using hq) p hp
  | off hf _ ih =>
    refine ⟨ih.1, fun i q hq p hp => ?_⟩
    cases i with
    | zero => simp only [List.getElem?_cons_zero, Option.some.injEq] at hq; subst hq; simp at hp
    | succ i => exact ih.2 i q (by simpa using hq) p hp
  | facts _ ih => exact ih

/-! ### Makers and turners -/
theorem turned_some {x : Nat} : ∀ {l : List (Nat × Blk)} {b : Blk}, turned x l = some b → (x, b) ∈ l
  | [], _, h => by simp [turned] at h
  | p :: l, b, h => by
    simp only [turned] at h
    split at h
    · rename_i b' hb
      cases h
      exact List.mem_cons.2 (.inr (turned_some hb))
    · split at h
      · rename_i hp
        have := Nat.eq_of_beq_eq_true hp
        cases h
        rw [← this]
        simp
      · cases h
theorem turned_none {x : Nat} : ∀ {l : List (Nat × Blk)}, turned x l = none → ∀ p ∈ l, p.1 ≠ x
  | [], _, p, hp => by simp at hp
  | q :: l, h, p, hp => by
    simp only [turned] at h
    split at h
    · cases h
    · rename_i hn
      split at h
      · cases h
      · rename_i hq
        rcases List.mem_cons.1 hp with rfl | hp
        · intro he; exact hq (by rw [he]; exact Nat.beq_refl _)
        · exact turned_none hn p hp
theorem setAll_get : ∀ (l : List (Nat × Blk)) (S : St) (u : Nat), (∀ p ∈ l, p.1 < 4095) → (S.setAll l).get u = match turned u l with | some b => b | none => S.get u
  | [], _, _, _ => rfl
  | p :: l, S, u, h => by
    rw [St.setAll, setAll_get l _ u (fun q hq => h q (by simp [hq]))]
    simp only [turned]
    cases turned u l with
    | some b => rfl
    | none =>
      simp only
      rw [St.get_set _ _ _ _ (h p (by simp))]
      by_cases hu : u = p.1
      · subst hu; rw [if_pos rfl, Nat.beq_refl]; rfl
      · rw [if_neg hu]
        have : Nat.beq p.1 u = false := by
          rw [Bool.eq_false_iff]; intro hb; exact hu (Nat.eq_of_beq_eq_true hb).symm
        rw [this]; rfl
/-- The turners of a block: just those whose log tells it. -/
theorem turnersOf_mem {x : Nat} : ∀ {lg : List Log} {k : Nat} {t : Nat × Blk}, t ∈ turnersOf x lg k → ∃ i g, lg[i]? = some g ∧ t.1 = k + i ∧ turned x g.r.upd = some t.2
  | [], _, _, h => by simp [turnersOf] at h
  | g :: lg, k, t, h => by
    simp only [turnersOf] at h
    split at h
    · rename_i b hb
      rcases List.mem_cons.1 h with rfl | h
      · exact ⟨0, g, rfl, by simp, hb⟩
      · obtain ⟨i, q, h1, h2, h3⟩ := turnersOf_mem h
        exact ⟨i + 1, q, by simpa using h1, by omega, h3⟩
    · obtain ⟨i, q, h1, h2, h3⟩ := turnersOf_mem h
      exact ⟨i + 1, q, by simpa using h1, by omega, h3⟩
theorem turnersOf_has {x : Nat} : ∀ {lg : List Log} {k i : Nat} {g : Log} {b : Blk}, lg[i]? = some g → turned x g.r.upd = some b → (k + i, b) ∈ turnersOf x lg k
  | [], _, _, _, _, h, _ => by simp at h
  | q :: lg, k, 0, g, b, h, hb => by
    simp only [List.getElem?_cons_zero, Option.some.injEq] at h
    subst h
    simp only [turnersOf, hb]
    simp
  | q :: lg, k, i + 1, g, b, h, hb => by
    have := turnersOf_has (k := k + 1) (lg := lg) (i := i) (by simpa using h) hb
    rw [show k + 1 + i = k + (i + 1) from by omega] at this
    simp only [turnersOf]
    split
    · exact List.mem_cons.2 (.inr this)
    · exact this
/-- The maker of a block. -/
theorem makerOf_some {x : Nat} : ∀ {lg : List Log} {k : Nat} {t : Nat × Blk}, makerOf x lg k = some t → ∃ i g, lg[i]? = some g ∧ t.1 = k + i ∧ g.n ≤ x ∧ x < g.stop ∧ t.2 = g.r.new.getD (x - g.n) .gone
  | [], _, _, h => by simp [makerOf] at h
  | g :: lg, k, t, h => by
    simp only [makerOf] at h
    split at h
    · rename_i hc
      rw [Bool.and_eq_true, Nat.blt_eq] at hc
      cases h
      exact ⟨0, g, rfl, by simp, Nat.le_of_ble_eq_true hc.1, hc.2, rfl⟩
    · obtain ⟨i, q, h1, h2, h3⟩ := makerOf_some h
      exact ⟨i + 1, q, by simpa using h1, by omega, h3⟩
theorem makerOf_none {x : Nat} : ∀ {lg : List Log} {k : Nat}, makerOf x lg k = none → ∀ (i : Nat) (g : Log), lg[i]? = some g → ¬ (g.n ≤ x ∧ x < g.stop)
  | [], _, _, i, g, h => by simp at h
  | q :: lg, k, h, i, g, hg => by
    simp only [makerOf] at h
    split at h
    · cases h
    · rename_i hc
      cases i with
      | zero =>
        simp only [List.getElem?_cons_zero, Option.some.injEq] at hg
        subst hg
        rintro ⟨h1, h2⟩
        exact hc (by rw [Bool.and_eq_true, Nat.blt_eq]; exact ⟨Nat.ble_eq_true_of_le h1, h2⟩)
      | succ i => exact makerOf_none h i g (by simpa using hg)
/-- What a block is at the end. -/
theorem Trace.S {ops : List Oper} {l l' : Leaf} {lg : List Log} (h : Trace ops l lg l') (hu : ∀ (i : Nat) (g : Log), lg[i]? = some g → ∀ p ∈ g.r.upd, p.1 < g.n) (x k : Nat) :
    (∃ t ∈ turnersOf x lg k, l'.S.get x = t.2) ∨ (turnersOf x lg k = [] ∧ ((∃ t, makerOf x lg k = some t ∧ l'.S.get x = t.2) ∨ (makerOf x lg k = none ∧ l'.S.get x = l.S.get x))) ∨ l'.S.get x = .gone := by
  induction h generalizing k with
  | nil => exact .inr (.inl ⟨rfl, .inr ⟨rfl, rfl⟩⟩)
  | @on o ops l l' lg r g hf tr ih =>
    have hu0 := hu 0 _ rfl
    obtain ⟨_, hn⟩ := fits_spec hf
    have hget := St.get_app hn hu0 x
    rcases ih (fun i g h => hu (i + 1) g (by simpa using h)) (k + 1) with ⟨t, h1, h2⟩ | ⟨h1, h2⟩ | h1
    · refine .inl ⟨t, ?_, h2⟩
      simp only [turnersOf]
      split
      · exact List.mem_cons.2 (.inr h1)
      · exact h1
    · simp only [turnersOf, makerOf, h1]
      have hrest : ∀ t, makerOf x lg (k + 1) = some t → ¬ (l.S.n ≤ x ∧ x < l.S.n + r.new.length) := fun t ht hc => by
        obtain ⟨i, q, h3, _, h4, h5, _⟩ := makerOf_some ht
        have := (tr.n).2.1 i q h3
        rw [St.n_app] at this
        omega
      have hnob : ¬ (l.S.n ≤ x ∧ x < l.S.n + r.new.length) → (Nat.ble l.S.n x && Nat.blt x (l.S.n + r.new.length)) = false := fun hc => by
        rw [Bool.eq_false_iff]
        intro hb
        rw [Bool.and_eq_true, Nat.blt_eq] at hb
        exact hc ⟨Nat.le_of_ble_eq_true hb.1, hb.2⟩
      rcases h2 with ⟨t, ht, h2⟩ | ⟨h2, h3⟩
      · -- made later
        cases htu : turned x r.upd with
        | some b =>
          have := hu0 _ (turned_some htu)
          obtain ⟨i, q, h3, _, h4, h5, _⟩ := makerOf_some ht
          have h6 := (tr.n).2.1 i q h3
          rw [St.n_app] at h6
          simp only at this
          omega
        | none =>
          rw [if_neg (by rw [hnob (hrest t ht)]; simp)]
          exact .inr (.inl ⟨rfl, .inl ⟨t, ht, h2⟩⟩)
      · rw [h3]
        rcases hget with ⟨h4, h5, h6⟩ | ⟨hc, ⟨p, hp, h4, h5⟩ | ⟨h4, h5⟩⟩
        · -- made here
          have : (Nat.ble l.S.n x && Nat.blt x (l.S.n + r.new.length)) = true := by
            rw [Bool.and_eq_true, Nat.blt_eq]; exact ⟨Nat.ble_eq_true_of_le h4, h5⟩
          cases htu : turned x r.upd with
          | some b => have := hu0 _ (turned_some htu); simp only at this; omega
          | none =>
            rw [if_pos this]
            exact .inr (.inl ⟨rfl, .inl ⟨_, rfl, h6⟩⟩)
        · -- turned here
          have h6 : (l.S.app r).get x = match turned x r.upd with | some b => b | none => l.S.get x := by
            have h7 := St.get_pushAll r.new (l.S.setAll r.upd) x (by rw [St.n_setAll]; exact hn)
            rw [St.n_setAll, if_neg hc] at h7
            exact h7.trans (setAll_get r.upd l.S x fun q hq => by have := hu0 q hq; simp only at this; omega)
          cases htu : turned x r.upd with
          | none => exact absurd h4 (turned_none htu p hp)
          | some b =>
            rw [htu] at h6
            exact .inl ⟨(k, b), by simp, h6⟩
        · cases htu : turned x r.upd with
          | some b => exact absurd rfl (h4 _ (turned_some htu))
          | none =>
            rw [if_neg (by rw [hnob hc]; simp), h2]
            exact .inr (.inl ⟨rfl, .inr ⟨rfl, h5⟩⟩)
    · exact .inr (.inr h1)
  | @off o ops l l' lg hf tr ih =>
    have ih := ih (fun i g h => hu (i + 1) g (by simpa using h)) (k + 1)
    have e1 : turnersOf x (⟨false, l.S.n, { mv := .und }, .e, {}, l.fs⟩ :: lg) k = turnersOf x lg (k + 1) := rfl
    have e2 : makerOf x (⟨false, l.S.n, { mv := .und }, .e, {}, l.fs⟩ :: lg) k = makerOf x lg (k + 1) := by
      simp only [makerOf, List.length_nil, Nat.add_zero]
      rw [if_neg]
      rw [Bool.and_eq_true, Nat.blt_eq]
      rintro ⟨h1, h2⟩
      have := Nat.le_of_ble_eq_true h1
      omega
    rw [e1, e2]
    exact ih
  | facts _ ih => exact ih hu k
end Sx
end Go.Proofs.Ytigblagodlfedaa
