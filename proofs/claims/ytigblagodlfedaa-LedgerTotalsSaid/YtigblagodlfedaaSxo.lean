/- The symbolic run: calls of functions whose code is run. -/
import Derived.Test.YtigblagodlfedaaSxn
namespace Go.Proofs.Ytigblagodlfedaa
namespace Sx
open Go.RowKit

/-! ### The first frame -/
theorem Fr.start_get : ∀ (l : List MV) (i : Nat) (f : Fr) (t : Nat), i + l.length ≤ 4000 → (Fr.start i l f).get .unk t = if i ≤ t ∧ t < i + l.length then l.getD (t - i) .unk else f.get .unk t
  | [], i, f, t, _ => by rw [if_neg (by simp only [List.length_nil]; omega)]; rfl
  | m :: l, i, f, t, h => by
    simp only [List.length_cons] at h
    rw [Fr.start, Fr.start_get l (i + 1) _ t (by omega)]
    simp only [List.length_cons]
    by_cases h1 : i + 1 ≤ t ∧ t < i + 1 + l.length
    · rw [if_pos h1, if_pos (by omega), show t - i = (t - (i + 1)) + 1 from by omega]; simp
    · rw [if_neg h1, Tri.get_set _ _ _ _ (by omega)]
      by_cases h2 : t = i
      · subst h2; rw [if_pos rfl, if_pos (by omega)]; simp
      · rw [if_neg h2, if_neg (by omega)]
theorem Both.length {α β : Type} {R : α → β → Prop} {a : List α} {b : List β} (h : Both R a b) : a.length = b.length := by
  induction h with
  | nil => rfl
  | cons _ _ ih => simp [ih]
theorem Both.getD {α β : Type} {R : α → β → Prop} {a : List α} {b : List β} {x : α} {y : β} (h : Both R a b) (h0 : R x y) (i : Nat) : R (a.getD i x) (b.getD i y) := by
  induction h generalizing i with
  | nil => simpa using h0
  | cons h _ ih =>
    cases i with
    | zero => simpa using h
    | succ i => simpa using ih i
theorem startL_at {fn : Func} {args : List MV} {S : St} {fs : Facts} {Γ : Ctx} {L : Nat → Prop} {w : World} {vs : List Value} (ha : ArgsRel Γ L args vs) (hS : S.rel Γ L w) (hL : ∀ j, L j → j < S.n) (hf : fs.hold Γ.ρ) :
    At L Γ S w Γ (startL fn args S fs) { tmps := vs.toArray ++ Array.replicate (fn.ntmps - vs.toArray.size) undef, defers := [] } w ∧ (startL fn args S fs).ex = .normal := by
  have hlen := Both.length ha
  have hmono : ∀ j, L j → Sc L S.n S.n j := fun j hj => .inl hj
  have hfar : ∀ d, Far Γ Γ S S d w w := Far.refl hS hL
  unfold startL
  split
  · rename_i hc
    have hc := Nat.le_of_ble_eq_true hc
    refine ⟨⟨hL, ⟨rfl, ?_, ?_, fun t => ?_, fun t => ?_⟩, St.rel_mono hS hmono, hf, hfar []⟩, rfl⟩
    · simp [hlen]
    · show args.length + (fn.ntmps - args.length) ≤ 4000
      omega
    · show ((Fr.start 0 args .e).get .unk t).rel Γ _
      rw [Fr.start_get args 0 .e t (by omega)]
      by_cases ht : 0 ≤ t ∧ t < 0 + args.length
      · rw [if_pos ht]
        have := (Both.getD (x := MV.unk) (y := undef) ha ⟨show MV.rel Γ .unk undef from trivial, show MV.on L .unk from trivial⟩ t).1
        have e : (vs.toArray ++ Array.replicate (fn.ntmps - vs.toArray.size) undef).getD t undef = vs.getD t undef := by
          have hlt : t < vs.length := by omega
          rw [Array.getD_eq_getD_getElem?, Array.getElem?_append_left (by simpa using hlt)]
          simp
        rw [e]
        exact this
      · rw [if_neg ht]; trivial
    · show ((Fr.start 0 args .e).get .unk t).on _
      rw [Fr.start_get args 0 .e t (by omega)]
      by_cases ht : 0 ≤ t ∧ t < 0 + args.length
      · rw [if_pos ht]
        exact MV.on_mono hmono (Both.getD (x := MV.unk) (y := undef) ha ⟨show MV.rel Γ .unk undef from trivial, show MV.on L .unk from trivial⟩ t).2
      · rw [if_neg ht]; trivial
  · exact ⟨⟨hL, ⟨rfl, Nat.zero_le _, by simp, fun t => trivial, fun t => trivial⟩, St.rel_mono hS hmono, hf, hfar []⟩, rfl⟩

/-! ### Results -/
def avOn (L : Nat → Prop) (p : Bool × List MC) : Prop := csOn L p.2
/-- What a result variable has. -/
def resRun (a : Act) : ResultVar → Sem Value
  | .tmp t => pure (a.tmps.getD t undef)
  | .cell c t => do loadVar t (← asAddr (a.tmps.getD c undef))
theorem resM_sound {P : Program} {bs : Bds} {fs : Facts} {fr : Fr} {S : St} {r : ResultVar} {p : Bool × List MC} {Γ : Ctx} {L : Nat → Prop} {N : Nat} {a : Act} {w : World} (h : resM P bs fs fr S r = some p) (hfr : Fr.rel Γ L N fr a) (hS : S.rel Γ L w) (hb : bs.hold Γ.ρ) (hf : fs.hold Γ.ρ) :
    (resRun a r).run P w = .ok (avDen Γ p) w ∧ csOn L p.2 := by
  cases r with
  | tmp t =>
    simp only [resM] at h
    have hr := hfr.rel t
    have ho := hfr.on t
    split at h
    · rename_i m hm
      cases h
      rw [hm] at hr ho
      exact ⟨by unfold resRun; simp only; rw [MV.rel_c hr]; rfl, fun x hx => by rcases List.mem_singleton.1 hx with rfl; exact ho⟩
    · rename_i l hm
      cases h
      rw [hm] at hr ho
      exact ⟨by unfold resRun; simp only; rw [MV.rel_agg hr]; rfl, ho⟩
    · cases h
  | cell c t =>
    simp only [resM] at h
    have hr := hfr.rel c
    have key : ∀ q : Res, loadM P bs fs t (fr.get .unk c) S = .ok q → ∃ b o, fr.get .unk c = .c (.ptr b o) := fun q hq => by
      unfold loadM at hq
      split at hq
      · exact ⟨_, _, by assumption⟩
      · cases hq
    have go : ∀ q : Res, loadM P bs fs t (fr.get .unk c) S = .ok q → ∃ v, (resRun a (.cell c t)).run P w = .ok v w ∧ q.mv.rel Γ v ∧ q.mv.on L := fun q hq => by
      obtain ⟨b, o, hbo⟩ := key q hq
      obtain ⟨v, h1, h2, h3, _⟩ := loadM_pure (L := L) (w := w) hq hr hS hb hf
      rw [hbo] at hr
      have hp := MV.rel_c hr
      refine ⟨v, ?_, h2, h3⟩
      rw [hp] at h1
      simp only [Instr.loadAt, MC.den, Instr.sureAddr, Sem.run_bind, Sem.run_pure, Result.andThen_ok] at h1
      simp only [resRun, hp, MC.den, asAddr, Sem.run_bind, Sem.run_pure, Result.andThen_ok, h1]
    split at h
    · rename_i m hq
      cases h
      obtain ⟨v, h1, h2, h3⟩ := go _ (by assumption)
      exact ⟨by rw [h1, MV.rel_c h2]; rfl, fun x hx => by rcases List.mem_singleton.1 hx with rfl; exact h3⟩
    · rename_i l hq
      cases h
      obtain ⟨v, h1, h2, h3⟩ := go _ (by assumption)
      exact ⟨by rw [h1, MV.rel_agg h2]; rfl, h3⟩
    · cases h
theorem resMs_sound {P : Program} {bs : Bds} {fs : Facts} {fr : Fr} {S : St} {Γ : Ctx} {L : Nat → Prop} {N : Nat} {a : Act} {w : World} (hfr : Fr.rel Γ L N fr a) (hS : S.rel Γ L w) (hb : bs.hold Γ.ρ) (hf : fs.hold Γ.ρ) :
    ∀ {rs : List ResultVar} {l : List (Bool × List MC)}, resMs P bs fs fr S rs = some l → (rs.mapM (resRun a)).run P w = .ok (l.map (avDen Γ)) w ∧ ∀ p ∈ l, csOn L p.2
  | [], l, h => by simp only [resMs, Option.some.injEq] at h; subst h; exact ⟨rfl, fun p hp => absurd hp (by simp)⟩
  | r :: rs, l, h => by
    simp only [resMs] at h
    split at h
    · rename_i p q hp hq
      cases h
      obtain ⟨h1, h2⟩ := resM_sound hp hfr hS hb hf
      obtain ⟨h3, h4⟩ := resMs_sound hfr hS hb hf hq
      refine ⟨by simp only [List.mapM_cons, Sem.run_bind, h1, h3, Result.andThen_ok, Sem.run_pure, List.map_cons], fun x hx => ?_⟩
      rcases List.mem_cons.1 hx with rfl | hx
      · exact h2
      · exact h4 x hx
    · cases h
theorem results_run {P : Program} {fn : Func} {a : Act} {w : World} {vs : List Value} (h : (fn.results.toList.mapM (resRun a)).run P w = .ok vs w) :
    (results fn a.tmps).run P w = .ok (if h : vs.length = 1 then vs[0] else .tuple vs.toArray) w := by
  have e : (fn.results.mapM (resRun a)).run P w = .ok vs.toArray w := by
    rw [Array.mapM_eq_mapM_toList]
    simp only [Sem.run_map, h, Result.andThen_ok]
  have e2 : results fn a.tmps = (do let vs ← fn.results.mapM (resRun a); pure (if h : vs.size = 1 then vs[0] else .tuple vs)) := by
    unfold results
    congr 2
  rw [e2]
  simp only [Sem.run_bind, e, Result.andThen_ok, Sem.run_pure, List.size_toArray]
  simp
theorem resV_sound {P : Program} {bs : Bds} {fs : Facts} {fr : Fr} {S : St} {Γ : Ctx} {L : Nat → Prop} {N : Nat} {a : Act} {w : World} {fn : Func} {m : MV} (hfr : Fr.rel Γ L N fr a) (hS : S.rel Γ L w) (hb : bs.hold Γ.ρ) (hf : fs.hold Γ.ρ)
    (h : resV P bs fs fr S fn.results.toList = some m) : ∃ v, (results fn a.tmps).run P w = .ok v w ∧ m.rel Γ v ∧ m.on L := by
  unfold resV at h
  cases hq : resMs P bs fs fr S fn.results.toList with
  | none => rw [hq] at h; simp at h
  | some l =>
    rw [hq] at h
    obtain ⟨h1, h2⟩ := resMs_sound hfr hS hb hf hq
    have h3 := results_run h1
    refine ⟨_, h3, ?_⟩
    split at h
    · rename_i m' hl
      simp only [Option.some.injEq] at hl h
      subst hl h
      exact ⟨rfl, h2 (false, [m']) (by simp) m' (by simp)⟩
    · rename_i cs hl
      simp only [Option.some.injEq] at hl h
      subst hl h
      exact ⟨rfl, h2 (true, cs) (by simp)⟩
    · cases h
    · rename_i l' h5 h6 h7 hl
      simp only [Option.some.injEq] at hl h
      subst hl h
      have hne : ¬ (l.map (avDen Γ)).length = 1 := by
        intro hlen
        rw [List.length_map] at hlen
        rcases l with _ | ⟨⟨b, cs⟩, _ | ⟨q, r⟩⟩
        · simp at hlen
        · exact h7 (b, cs) rfl
        · simp at hlen
      rw [dif_neg hne]
      exact ⟨rfl, fun p hp => h2 p hp⟩
    · cases h

/-! ### What names no block -/
theorem MC.on_of_refs {m : MC} (h : m.refs = false) (L : Nat → Prop) : m.on L := by
  cases m <;> simp only [MC.refs, Bool.true_eq_false] at h <;> try trivial
  rename_i f caps
  cases caps with
  | nil => exact fun p hp => absurd hp (by simp)
  | cons p l => simp at h
theorem csOn_of_refs {l : List MC} (h : l.any MC.refs = false) (L : Nat → Prop) : csOn L l := fun m hm => MC.on_of_refs (by
  have := List.any_eq_false.1 h m hm
  simpa using this) L
theorem MV.on_of_refs {m : MV} (h : m.refs = false) (L : Nat → Prop) : m.on L := by
  cases m with
  | c m => exact MC.on_of_refs h L
  | agg l => exact csOn_of_refs h L
  | tup l => exact fun p hp => csOn_of_refs (by have := List.any_eq_false.1 h p hp; simpa using this) L
  | unk => trivial
  | und => trivial
  | row _ _ _ _ => trivial
theorem Blk.on_of_refs {b : Blk} (h : b.refs = false) (L : Nat → Prop) : b.on L := by
  cases b with
  | cells cs t q => exact csOn_of_refs h L
  | gone => trivial
  | arr x ks lo n t wr tl => exact csOn_of_refs h L

/-! ### Behind a call -/
theorem gone?_iff (b : Blk) : b.gone? = true ↔ b.Gone := by cases b <;> simp [Blk.gone?, Blk.Gone]
theorem pickSt_mem {S0 S : St} : ∀ {l : List Nat} {p : Nat × Blk}, p ∈ pickSt S0 S l ↔ p.1 ∈ l ∧ p.1 < S0.n ∧ ¬ (S0.get p.1).Gone ∧ p.2 = S.get p.1
  | [], p => by simp [pickSt]
  | i :: l, p => by
    simp only [pickSt]
    split
    · rename_i hc
      rw [Bool.and_eq_true, Nat.blt_eq] at hc
      have hg : ¬ (S0.get i).Gone := fun hg => by
        have := (gone?_iff _).2 hg
        simp [this] at hc
      simp only [List.mem_cons, pickSt_mem]
      constructor
      · rintro (rfl | h)
        · exact ⟨.inl rfl, hc.1, hg, rfl⟩
        · exact ⟨.inr h.1, h.2⟩
      · rintro ⟨h | h, h2, h3, h4⟩
        · exact .inl (Prod.ext h (by rw [h4, h]))
        · exact .inr ⟨h, h2, h3, h4⟩
    · rename_i hc
      simp only [List.mem_cons, pickSt_mem]
      constructor
      · rintro ⟨h1, h2⟩; exact ⟨.inr h1, h2⟩
      · rintro ⟨h1 | h1, h2, h3, h4⟩
        · exact absurd (by
            rw [Bool.and_eq_true, Nat.blt_eq]
            subst h1
            refine ⟨h2, ?_⟩
            cases hq : (S0.get p.1).gone? with
            | true => exact absurd ((gone?_iff _).1 hq) h3
            | false => rfl) hc
        · exact ⟨h1, h2, h3, h4⟩
theorem newSt_length (S : St) : ∀ (k i : Nat), (newSt S i k).length = k
  | 0, _ => rfl
  | k + 1, i => by simp [newSt, newSt_length S k]
theorem newSt_get (S : St) : ∀ (k i j : Nat), j < k → (newSt S i k).getD j .gone = S.get (i + j)
  | 0, _, _, h => by omega
  | k + 1, i, 0, _ => by simp [newSt]
  | k + 1, i, j + 1, h => by
    simp only [newSt, List.getD_cons_succ]
    rw [newSt_get S k (i + 1) j (by omega), show i + 1 + j = i + (j + 1) from by omega]
theorem newSt_mem {S : St} : ∀ {k i : Nat} {b : Blk}, b ∈ newSt S i k → ∃ j, j < k ∧ b = S.get (i + j)
  | 0, _, _, h => by simp [newSt] at h
  | k + 1, i, b, h => by
    simp only [newSt, List.mem_cons] at h
    rcases h with rfl | h
    · exact ⟨0, by omega, by simp⟩
    · obtain ⟨j, h1, h2⟩ := newSt_mem h
      exact ⟨j + 1, by omega, by rw [h2, show i + 1 + j = i + (j + 1) from by omega]⟩
/-- The reading behind a call: that of before, and the blocks that came. -/
def Ctx.mix (Γ Γ' : Ctx) (n k : Nat) : Ctx := ⟨Γ.ρ, fun j => if n ≤ j ∧ j < n + k then Γ'.id j else Γ.id j, fun j => if n ≤ j ∧ j < n + k then Γ'.sz j else Γ.sz j⟩
theorem Step.of_far {L : Nat → Prop} {Γ Γ' : Ctx} {S : St} {w w' : World} {l : Leaf} {a : Act} {m : MV} {v : Value} (hat : At L Γ S w Γ' l a w') (hv : m.rel Γ' v) (hm : m.on (Sc L S.n l.S.n)) :
    ∃ Γ'', (m.rel Γ'' v) ∧ Step Γ Γ'' L S { mv := m, new := if m.refs || (pickSt S l.S l.d).any (fun p => p.2.refs) then newSt l.S S.n (l.S.n - S.n) else [], upd := pickSt S l.S l.d } w w' := by
  have hn := hat.far.n
  have hbd := hat.bound
  -- two cases: what came is kept, or nobody can reach it
  have gen : ∀ (new : List Blk) (k : Nat), new.length = k → (∀ i, i < k → new.getD i .gone = l.S.get (S.n + i)) → (∀ b ∈ new, ∃ j, j < k ∧ b = l.S.get (S.n + j)) → k ≤ l.S.n - S.n →
      (m.on (Sc L S.n (S.n + k))) → (∀ p ∈ pickSt S l.S l.d, p.2.on (Sc L S.n (S.n + k))) → (∀ i, i < k → (l.S.get (S.n + i)).on (Sc L S.n (S.n + k))) →
      ∃ Γ'', (m.rel Γ'' v) ∧ Step Γ Γ'' L S { mv := m, new := new, upd := pickSt S l.S l.d } w w' := by
    intro new k hk hget hmem hkn hmo huo hno
    have hag : Agree Γ' (Γ.mix Γ' S.n k) (Sc L S.n (S.n + k)) := by
      refine ⟨hat.far.ρ.symm, fun j hj => ?_, fun j hj => ?_⟩
      · simp only [Ctx.mix]
        by_cases hc : S.n ≤ j ∧ j < S.n + k
        · rw [if_pos hc]
        · rw [if_neg hc]
          have : j < S.n := by
            rcases hj with hj | hj
            · exact hat.lt j hj
            · exact absurd hj hc
          exact (hat.far.id j this).symm
      · simp only [Ctx.mix]
        by_cases hc : S.n ≤ j ∧ j < S.n + k
        · rw [if_pos hc]
        · rw [if_neg hc]
          have : j < S.n := by
            rcases hj with hj | hj
            · exact hat.lt j hj
            · exact absurd hj hc
          exact (hat.far.sz j this).symm
    have hnew : ∀ i, i < k → (Γ.mix Γ' S.n k).id (S.n + i) = Γ'.id (S.n + i) := fun i hi => by simp only [Ctx.mix]; rw [if_pos (by omega)]
    refine ⟨Γ.mix Γ' S.n k, MV.rel_agree hag hmo hv,
      { ρ := rfl, id := fun j hj => by rw [hk] at hj; simp only [Ctx.mix]; rw [if_neg hj], sz := fun j hj => by rw [hk] at hj; simp only [Ctx.mix]; rw [if_neg hj]
        os := hat.far.os, tape := hat.far.tape, output := hat.far.output, size := hat.far.size
        keep := fun q hq hp => hat.far.keep q hq fun j hjd hj hg => hp (j, l.S.get j) (pickSt_mem.2 ⟨hjd, hj, hg, rfl⟩)
        new := fun i hi => ?_, fresh := fun i hi hg => ?_, apart := fun i i' hi hi' hg hg' he => ?_, upd := fun p hp => ?_, once := fun q hq p hp he hpg => ?_
        onMv := MV.on_mono (fun j hj => by rw [hk]; exact hj) hmo
        onNew := fun b hb => ?_, onUpd := fun p hp => Blk.on_mono (fun j hj => by rw [hk]; exact hj) (huo p hp) }⟩
    · rw [hk] at hi
      rw [hget i hi]
      by_cases hg : (l.S.get (S.n + i)).Gone
      · rw [hg]; trivial
      · exact Blk.rel_agree hag (.inr ⟨by omega, by omega⟩) (hno i hi) rfl (hat.S.rel (S.n + i))
    · rw [hk] at hi
      rw [hget i hi] at hg
      rw [hnew i hi]
      rcases hat.far.fresh (S.n + i) (by omega) hg with h1 | ⟨p, hp, h2, h3, h4⟩
      · exact .inl h1
      · refine .inr ⟨(p, l.S.get p), pickSt_mem.2 ⟨hp, h2, h3, rfl⟩, ?_, h3, h4⟩
        by_cases hpg : (l.S.get p).Gone
        · exact hpg
        · have := hat.S.inj (S.n + i) p hg hpg (by rw [h4, hat.far.id p h2])
          omega
    · rw [hk] at hi hi'
      rw [hget i hi] at hg
      rw [hget i' hi'] at hg'
      rw [hnew i hi, hnew i' hi'] at he
      have := hat.S.inj _ _ hg hg' he
      omega
    · obtain ⟨h1, h2, h3, h4⟩ := pickSt_mem.1 hp
      refine ⟨?_, h3⟩
      have ho := huo p hp
      rw [h4] at ho ⊢
      by_cases hg : (l.S.get p.1).Gone
      · rw [hg]; trivial
      · have hsc : Sc L S.n (S.n + k) p.1 := by
          rcases hat.S.live p.1 hg with h5 | h5
          · exact .inl h5
          · omega
        exact Blk.rel_agree hag hsc ho rfl (hat.S.rel p.1)
    · obtain ⟨_, _, _, h4⟩ := pickSt_mem.1 hp
      obtain ⟨_, _, _, h5⟩ := pickSt_mem.1 hq
      rw [h5, he, ← h4]; exact hpg
    · obtain ⟨j, hj, rfl⟩ := hmem b hb
      exact Blk.on_mono (fun j hj => by rw [hk]; exact hj) (hno j hj)
  have full : S.n + (l.S.n - S.n) = l.S.n := by omega
  split
  · exact gen _ (l.S.n - S.n) (newSt_length _ _ _) (fun i hi => newSt_get _ _ _ _ hi) (fun b hb => newSt_mem hb) (Nat.le_refl _)
      (by rw [full]; exact hm) (fun p hp => by obtain ⟨_, _, _, h4⟩ := pickSt_mem.1 hp; rw [h4, full]; exact hat.S.on p.1) (fun i hi => by rw [full]; exact hat.S.on _)
  · rename_i hr
    rw [Bool.or_eq_true, not_or] at hr
    have h1 : m.refs = false := by simpa using hr.1
    exact gen [] 0 rfl (fun i hi => absurd hi (by omega)) (fun b hb => absurd hb (by simp)) (Nat.zero_le _) (MV.on_of_refs h1 _)
      (fun p hp => Blk.on_of_refs (by
        have h2 : ¬ (pickSt S l.S l.d).any (fun p => p.2.refs) = true := hr.2
        cases hq : p.2.refs with
        | false => rfl
        | true => exact absurd (List.any_eq_true.2 ⟨p, hp, hq⟩) h2) _) (fun i hi => absurd hi (by omega))
/-- A call's result that says no more. -/
def RLe (ρ : Val) (r r' : Res) : Prop := r'.new = r.new ∧ r'.upd = r.upd ∧ ∀ Γ L v, Γ.ρ = ρ → r.mv.rel Γ v → r.mv.on L → r'.mv.rel Γ v ∧ r'.mv.on L
theorem RLe.refl (ρ : Val) (r : Res) : RLe ρ r r := ⟨rfl, rfl, fun _ _ _ _ h k => ⟨h, k⟩⟩
theorem RLe.trans {ρ : Val} {a b c : Res} (h : RLe ρ a b) (k : RLe ρ b c) : RLe ρ a c :=
  ⟨k.1.trans h.1, k.2.1.trans h.2.1, fun Γ L v hρ hv ho => let ⟨h1, h2⟩ := h.2.2 Γ L v hρ hv ho; k.2.2 Γ L v hρ h1 h2⟩
theorem Step.le {Γ Γ' : Ctx} {L : Nat → Prop} {S : St} {r r' : Res} {w w' : World} {v : Value} (h : Step Γ Γ' L S r w w') (hv : r.mv.rel Γ' v) (hl : RLe Γ'.ρ r r') : r'.mv.rel Γ' v ∧ Step Γ Γ' L S r' w w' := by
  obtain ⟨m', n', u'⟩ := r'
  obtain ⟨m, n, u⟩ := r
  obtain ⟨h1, h2, h3⟩ := hl
  simp only at h1 h2
  subst h1 h2
  obtain ⟨h4, h5⟩ := h3 Γ' _ v rfl hv h.onMv
  exact ⟨h4, { ρ := h.ρ, id := h.id, sz := h.sz, os := h.os, tape := h.tape, output := h.output, size := h.size, keep := h.keep, new := h.new, fresh := h.fresh, apart := h.apart, upd := h.upd, once := h.once, onMv := h5, onNew := h.onNew, onUpd := h.onUpd }⟩
theorem brC_spec {keep : Bool} {fs : Facts} {e : E} {t f : CT} {ρ : Val} : ((brC keep fs e t f).ok ρ → (if e.T ρ = true then t else f).ok ρ) ∧ ∀ r g, (if e.T ρ = true then t else f).at ρ = some (r, g) → ∃ r' g', (brC keep fs e t f).at ρ = some (r', g') ∧ RLe ρ r r' := by
  have plain : ((CT.br fs e t f).ok ρ → (if e.T ρ = true then t else f).ok ρ) ∧ ∀ r g, (if e.T ρ = true then t else f).at ρ = some (r, g) → ∃ r' g', (CT.br fs e t f).at ρ = some (r', g') ∧ RLe ρ r r' := by
    by_cases hc : e.T ρ = true
    · simp only [CT.ok, CT.at, if_pos hc]
      exact ⟨fun h => h, fun r g h => ⟨r, g, h, RLe.refl ρ r⟩⟩
    · simp only [CT.ok, CT.at, if_neg hc]
      exact ⟨fun h => h, fun r g h => ⟨r, g, h, RLe.refl ρ r⟩⟩
  generalize hu : (if e.T ρ = true then t else f) = u at plain
  unfold brC
  split
  · rename_i a ga b gb
    split
    · exact plain
    · rename_i hne
      have hu' : u = if e.T ρ = true then .leaf ⟨a, [], []⟩ ga else .leaf ⟨b, [], []⟩ gb := hu.symm
      subst hu'
      refine ⟨fun _ => by split <;> trivial, fun r g h => ⟨_, _, rfl, ?_⟩⟩
      have hr : r = ⟨if e.T ρ = true then a else b, [], []⟩ := by
        by_cases hc : e.T ρ = true
        · rw [if_pos hc] at h ⊢; simp only [CT.at, Option.some.injEq, Prod.mk.injEq] at h; exact h.1.symm
        · rw [if_neg hc] at h ⊢; simp only [CT.at, Option.some.injEq, Prod.mk.injEq] at h; exact h.1.symm
      subst hr
      refine ⟨rfl, rfl, fun Γ L v hρ hv ho => ?_⟩
      subst hρ
      exact joinV_rel rfl hv ho
  · exact plain
theorem endM_leaf {P : Program} {E : Env} {fn : Func} {S : St} {l : Leaf} {ρ : Val} (h : (endM P E fn S l).ok ρ) : ∃ v, resV P E.bs l.fs l.fr l.S fn.results.toList = some v ∧ (∀ id, l.ex ≠ .exit id) ∧
    endM P E fn S l = .leaf { mv := v, new := if v.refs || (pickSt S l.S l.d).any (fun p => p.2.refs) then newSt l.S S.n (l.S.n - S.n) else [], upd := pickSt S l.S l.d } l.fs := by
  unfold endM at h ⊢
  split at h
  · rename_i v hv
    split at h
    · exact h.elim
    · rename_i hne
      exact ⟨v, hv, fun id hid => hne id hid, rfl⟩
  · exact h.elim
theorem toCT_spec {P : Program} {E : Env} {fn : Func} {S : St} {ρ : Val} : ∀ t : Tr, (toCT P E fn S t).ok ρ → t.ok ρ ∧ ∀ l, t.at ρ = some l → ∃ r g r' g', endM P E fn S l = .leaf r g ∧ (endM P E fn S l).ok ρ ∧ (toCT P E fn S t).at ρ = some (r', g') ∧ RLe ρ r r'
  | .leaf l, h => by
    refine ⟨trivial, fun l' hl => ?_⟩
    simp only [Tr.at, Option.some.injEq] at hl
    subst hl
    unfold toCT at h ⊢
    obtain ⟨v, _, _, h3⟩ := endM_leaf h
    exact ⟨_, _, _, _, h3, h, by rw [h3]; rfl, RLe.refl ρ _⟩
  | .br fs e t f, h => by
    unfold toCT at h ⊢
    obtain ⟨h1, h2⟩ := brC_spec (keep := E.keep) (fs := fs) (e := e) (t := toCT P E fn S t) (f := toCT P E fn S f) (ρ := ρ)
    have h := h1 h
    by_cases hc : e.T ρ = true
    · rw [if_pos hc] at h h2
      obtain ⟨h3, h4⟩ := toCT_spec t h
      refine ⟨by simp only [Tr.ok, if_pos hc]; exact h3, fun l hl => ?_⟩
      simp only [Tr.at, if_pos hc] at hl
      obtain ⟨r, g, r', g', h5, h5', h6, h7⟩ := h4 l hl
      obtain ⟨r2, g2, h8, h9⟩ := h2 r' g' h6
      exact ⟨r, g, r2, g2, h5, h5', h8, h7.trans h9⟩
    · rw [if_neg hc] at h h2
      obtain ⟨h3, h4⟩ := toCT_spec f h
      refine ⟨by simp only [Tr.ok, if_neg hc]; exact h3, fun l hl => ?_⟩
      simp only [Tr.at, if_neg hc] at hl
      obtain ⟨r, g, r', g', h5, h5', h6, h7⟩ := h4 l hl
      obtain ⟨r2, g2, h8, h9⟩ := h2 r' g' h6
      exact ⟨r, g, r2, g2, h5, h5', h8, h7.trans h9⟩
  | .dead, _ => ⟨trivial, fun l hl => by simp [Tr.at] at hl⟩
  | .fail _, h => ⟨h, fun l hl => by simp [Tr.at] at hl⟩
/-- A call of a function whose code is run. -/
theorem call_sound {P : Program} {E : Env} {n : Nat} (hE : E.Ok P) (hsum : Callee.Sound P E.bs E.sum) (ih : BodyOk P E n) : Callee.Sound P E.bs (callIn P E (ev P E n)) := by
  intro L f args vs S fs Γ w ha hS hL hb hf hok
  unfold callIn at hok ⊢
  split at hok
  · rename_i fn hfn
    obtain ⟨fn0, h1, h2, hnt, hrs, hbd⟩ := (hE.fns _ (Env.lookup_mem hfn)).ex
    split at hok
    · rename_i c' hc'
      obtain ⟨c, hc, hmk⟩ := hbd c' hc'
      obtain ⟨hat, hex⟩ := startL_at (fn := fn) (fs := fs) ha hS hL hf
      obtain ⟨hto, hlv⟩ := toCT_spec _ hok
      refine ⟨⟨fn0, h1, h2, by rw [hc]; rfl⟩, calls_of_wp h1 hc ?_⟩
      rw [hnt] at hat
      refine ih c' c hmk L Γ S w _ _ Γ _ w hb hex hat hto fun l Γ' a w' hl hat' => ?_
      obtain ⟨r, g, r', g', h3, h3', h4, h5⟩ := hlv l hl
      obtain ⟨v, h6, h7, h8⟩ := endM_leaf h3'
      rw [h3] at h8
      simp only [CT.leaf.injEq] at h8
      obtain ⟨h8, _⟩ := h8
      have hbΓ : E.bs.hold Γ'.ρ := by rw [hat'.far.ρ]; exact hb
      obtain ⟨u, h9, h10, h11⟩ := resV_sound hat'.fr hat'.S hbΓ hat'.fs h6
      obtain ⟨Γ'', h12, h13⟩ := Step.of_far hat' h10 h11
      rw [← h8] at h13
      have hmv : r.mv = v := by rw [h8]
      obtain ⟨h14, h15⟩ := Step.le h13 (by rw [hmv]; exact h12) (by rw [h13.ρ]; exact h5)
      have hres : results fn0 a.tmps = results fn a.tmps := by unfold results; rw [hrs]
      have key : a.defers = [] ∧ ∃ v, (results fn0 a.tmps).run P w' = .ok v w' ∧ (fun e w'' => ∃ v Γ' r g, e = Ending.returned v ∧ (toCT P E fn S (ev P E n c' (startL fn args S fs))).at Γ.ρ = some (r, g) ∧ r.mv.rel Γ' v ∧ Step Γ Γ' L S r w w'') (.returned v) w' :=
        ⟨hat'.fr.defers, u, by rw [hres]; exact h9, u, Γ'', r', g', rfl, h4, h14, h15⟩
      cases hx : l.ex with
      | normal => exact key
      | ret => exact key
      | exit id => exact absurd hx (h7 id)
    · exact hok.elim
  · exact hsum L f args vs S fs Γ w ha hS hL hb hf hok
theorem ev_ok {P : Program} {E : Env} (hE : E.Ok P) (hsum : Callee.Sound P E.bs E.sum) (hsure : Callee.Sure E.bs E.sum) (hdraw : DrawnSound P E.bs E.keep) : ∀ n, BodyOk P E n ∧ (RoundsOk P E n ∧ GotoOk P E n)
  | 0 => ⟨fun c' c _ L0 Γ0 S0 w0 Q l Γ a w _ _ _ hok _ => hok.elim, fun c' c _ L0 Γ0 S0 w0 Q l Γ a w _ _ _ hok _ => hok.elim, fun k c _ L0 Γ0 S0 w0 Q l Γ a w _ _ _ hok _ => hok.elim⟩
  | n + 1 => by
    obtain ⟨h1, h2, h3⟩ := ev_ok hE hsum hsure hdraw n
    exact ⟨step_code hE.loops (call_sound hE hsum h1) hsure hdraw h1 h2 h3, step_rounds h1 h2, step_goto hE.loops hsure h1⟩
end Sx
end Go.Proofs.Ytigblagodlfedaa
