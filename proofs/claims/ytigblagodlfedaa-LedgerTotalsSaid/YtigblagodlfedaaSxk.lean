/- The symbolic run: ways, and what holds where one ends. -/
import Derived.Test.YtigblagodlfedaaSxj
namespace Go.Proofs.Ytigblagodlfedaa
namespace Sx
open Go.RowKit

/-- The way that the symbols take. -/
def Tr.at (ρ : Val) : Tr → Option Leaf
  | .leaf l => some l
  | .br _ e t f => if E.T ρ e = true then t.at ρ else f.at ρ
  | _ => none
def Tr.ok (ρ : Val) : Tr → Prop
  | .br _ e t f => if E.T ρ e = true then t.ok ρ else f.ok ρ
  | .fail _ => False
  | _ => True
def CT.at (ρ : Val) : CT → Option (Res × Facts)
  | .leaf r g => some (r, g)
  | .br _ e t f => if E.T ρ e = true then t.at ρ else f.at ρ
  | _ => none
def CT.ok (ρ : Val) : CT → Prop
  | .br _ e t f => if E.T ρ e = true then t.ok ρ else f.ok ρ
  | .fail _ => False
  | _ => True
theorem Tr.bind_at (ρ : Val) (f : Leaf → Tr) : ∀ t : Tr, (t.bind f).at ρ = (t.at ρ).bind fun l => (f l).at ρ
  | .leaf _ => rfl
  | .br _ e t u => by
    simp only [Tr.bind, Tr.at]
    split
    · exact Tr.bind_at ρ f t
    · exact Tr.bind_at ρ f u
  | .dead => rfl
  | .fail _ => rfl
theorem Tr.bind_ok (ρ : Val) (f : Leaf → Tr) : ∀ t : Tr, (t.bind f).ok ρ → t.ok ρ ∧ ∀ l, t.at ρ = some l → (f l).ok ρ
  | .leaf l, h => ⟨trivial, fun l' hl => by simp only [Tr.at, Option.some.injEq] at hl; subst hl; exact h⟩
  | .br _ e t u, h => by
    by_cases he : E.T ρ e = true
    · simp only [Tr.bind, Tr.ok, Tr.at, if_pos he] at h ⊢
      exact Tr.bind_ok ρ f t h
    · simp only [Tr.bind, Tr.ok, Tr.at, if_neg he] at h ⊢
      exact Tr.bind_ok ρ f u h
  | .dead, _ => ⟨trivial, fun l hl => by simp [Tr.at] at hl⟩
  | .fail _, h => ⟨h, fun l hl => by simp [Tr.at] at hl⟩

/-! ### From the start to here -/
/-- What may be named: what could be at the start, and what was made since. -/
def Sc (L : Nat → Prop) (n0 n : Nat) : Nat → Prop := fun j => L j ∨ (n0 ≤ j ∧ j < n)
theorem Sc.mono {L : Nat → Prop} {n0 n m : Nat} (h : n ≤ m) : ∀ j, Sc L n0 n j → Sc L n0 m j := fun _ hj => hj.imp (fun h => h) fun hj => ⟨hj.1, Nat.lt_of_lt_of_le hj.2 h⟩
theorem Sc.lt {L : Nat → Prop} {n0 n : Nat} (hL : ∀ j, L j → j < n0) (h : n0 ≤ n) : ∀ j, Sc L n0 n j → j < n := fun j hj => by
  rcases hj with hj | hj
  · exact Nat.lt_of_lt_of_le (hL j hj) h
  · exact hj.2
theorem Sc.or {L : Nat → Prop} {n0 n k : Nat} (h : n0 ≤ n) : ∀ j, (Sc L n0 n j ∨ (n ≤ j ∧ j < n + k)) → Sc L n0 (n + k) j := fun j hj => by
  rcases hj with (hj | hj) | hj
  · exact .inl hj
  · exact .inr ⟨hj.1, by omega⟩
  · exact .inr ⟨by omega, hj.2⟩
/-- What has come of the world since the start. -/
structure Far (Γ0 Γ : Ctx) (S0 S : St) (d : List Nat) (w0 w : World) : Prop where
  ρ : Γ.ρ = Γ0.ρ
  n : S0.n ≤ S.n
  id : ∀ j, j < S0.n → Γ.id j = Γ0.id j
  sz : ∀ j, j < S0.n → Γ.sz j = Γ0.sz j
  os : w.os = w0.os
  tape : w.tape = w0.tape
  output : w.output = w0.output
  size : w0.heap.size ≤ w.heap.size
  keep : ∀ k, k < w0.heap.size → (∀ j ∈ d, j < S0.n → ¬ (S0.get j).Gone → Γ0.id j ≠ k) → w.heap[k]? = w0.heap[k]?
  fresh : ∀ j, S0.n ≤ j → ¬ (S.get j).Gone → w0.heap.size ≤ Γ.id j ∨ ∃ p ∈ d, p < S0.n ∧ ¬ (S0.get p).Gone ∧ Γ.id j = Γ0.id p
  gone : ∀ j, j < S0.n → ¬ (S.get j).Gone → ¬ (S0.get j).Gone
theorem Far.refl {Γ : Ctx} {L : Nat → Prop} {S : St} {w : World} (hS : S.rel Γ L w) (hL : ∀ j, L j → j < S.n) (d : List Nat) : Far Γ Γ S S d w w :=
  ⟨rfl, Nat.le_refl _, fun _ _ => rfl, fun _ _ => rfl, rfl, rfl, rfl, Nat.le_refl _, fun _ _ _ => rfl, fun j hj hg => absurd (hL j (hS.live j hg)) (by omega), fun _ _ h => h⟩
/-- One step more. -/
theorem Far.step {Γ0 Γ Γ' : Ctx} {S0 S : St} {d : List Nat} {w0 w w' : World} {r : Res} {L : Nat → Prop} (hf : Far Γ0 Γ S0 S d w0 w) (hS : S.rel Γ L w) (hL : ∀ j, L j → j < S.n) (h : Step Γ Γ' L S r w w') (hn : S.n + r.new.length ≤ 4000) :
    Far Γ0 Γ' S0 (S.app r) (r.upd.map (·.1) ++ d) w0 w' := by
  have hu : ∀ p ∈ r.upd, p.1 < S.n := fun p hp => hL _ (hS.live _ (h.upd p hp).2)
  have hid : ∀ j, j < S.n → Γ'.id j = Γ.id j := fun j hj => h.id j (by omega)
  have hn0 := hf.n
  -- where a turned block stood at the start, or that it is new
  have was : ∀ p ∈ r.upd, ∀ k, k < w0.heap.size → (∀ j ∈ r.upd.map (·.1) ++ d, j < S0.n → ¬ (S0.get j).Gone → Γ0.id j ≠ k) → Γ.id p.1 ≠ k := fun p hp k hk hj => by
    by_cases hp0 : p.1 < S0.n
    · rw [hf.id _ hp0]
      exact hj p.1 (List.mem_append.2 (.inl (List.mem_map.2 ⟨p, hp, rfl⟩))) hp0 (hf.gone _ hp0 (h.upd p hp).2)
    · rcases hf.fresh p.1 (by omega) (h.upd p hp).2 with h1 | ⟨q, hq, hq0, hqg, hqe⟩
      · omega
      · rw [hqe]; exact hj q (List.mem_append.2 (.inr hq)) hq0 hqg
  refine ⟨h.ρ.trans hf.ρ, by rw [St.n_app]; omega, fun j hj => (hid j (by omega)).trans (hf.id j hj), fun j hj => (h.sz j (by omega)).trans (hf.sz j hj), h.os.trans hf.os, h.tape.trans hf.tape, h.output.trans hf.output, Nat.le_trans hf.size h.size, fun k hk hj => ?_, fun j hj hg => ?_, fun j hj hg => ?_⟩
  · rw [h.keep k (by have := hf.size; omega) fun p hp => was p hp k hk hj, hf.keep k hk fun j hjd hj0 hjg => hj j (List.mem_append.2 (.inr hjd)) hj0 hjg]
  · -- new ones
    have old : ∀ j, S0.n ≤ j → j < S.n → ¬ (S.get j).Gone → w0.heap.size ≤ Γ'.id j ∨ ∃ p ∈ r.upd.map (·.1) ++ d, p < S0.n ∧ ¬ (S0.get p).Gone ∧ Γ'.id j = Γ0.id p := fun j h1 h2 h3 => by
      rw [hid j h2]
      rcases hf.fresh j h1 h3 with h4 | ⟨p, hp, h5⟩
      · exact .inl h4
      · exact .inr ⟨p, List.mem_append.2 (.inr hp), h5⟩
    rcases St.get_app hn hu j with ⟨h1, h2, h3⟩ | ⟨_, ⟨p, hp, rfl, h3⟩ | ⟨h2, h3⟩⟩
    · rw [h3] at hg
      have hfr := h.fresh (j - S.n) (by omega) hg
      rw [show S.n + (j - S.n) = j from by omega] at hfr
      rcases hfr with h4 | ⟨p, hp, hpg, hps, hpe⟩
      · exact .inl (Nat.le_trans hf.size h4)
      · by_cases hp0 : p.1 < S0.n
        · exact .inr ⟨p.1, List.mem_append.2 (.inl (List.mem_map.2 ⟨p, hp, rfl⟩)), hp0, hf.gone _ hp0 hps, by rw [hpe, hf.id _ hp0]⟩
        · rcases hf.fresh p.1 (by omega) hps with h4 | ⟨q, hq, h5, h6, h7⟩
          · exact .inl (by rw [hpe]; exact h4)
          · exact .inr ⟨q, List.mem_append.2 (.inr hq), h5, h6, by rw [hpe, h7]⟩
    · exact old p.1 hj (hu p hp) (h.upd p hp).2
    · rw [h3] at hg
      exact old j hj (hL _ (hS.live j hg)) hg
  · rcases St.get_app hn hu j with ⟨h1, h2, h3⟩ | ⟨_, ⟨p, hp, rfl, h3⟩ | ⟨h2, h3⟩⟩
    · omega
    · exact hf.gone _ hj (h.upd p hp).2
    · rw [h3] at hg; exact hf.gone j hj hg
/-- All that holds at a leaf. -/
structure At (L0 : Nat → Prop) (Γ0 : Ctx) (S0 : St) (w0 : World) (Γ : Ctx) (l : Leaf) (a : Act) (w : World) : Prop where
  lt : ∀ j, L0 j → j < S0.n
  fr : Fr.rel Γ (Sc L0 S0.n l.S.n) l.N l.fr a
  S : l.S.rel Γ (Sc L0 S0.n l.S.n) w
  fs : l.fs.hold Γ.ρ
  far : Far Γ0 Γ S0 l.S l.d w0 w
theorem Fr.rel_put {Γ : Ctx} {L : Nat → Prop} {N : Nat} {fr : Fr} {a : Act} {m : MV} {v : Value} {dst : Option Nat} (h : Fr.rel Γ L N fr a) (hv : m.rel Γ v) (hm : m.on L) (hd : ∀ d, dst = some d → d < N) :
    Fr.rel Γ L N (putM fr dst m) (a.put dst v) := by
  cases dst with
  | none => exact h
  | some d =>
    have hdN := hd d rfl
    have hlt := h.lt
    have hsz := h.size
    have hget : ∀ t, (putM fr (some d) m).get .unk t = if t = d then m else fr.get .unk t := fun t => Tri.get_set _ _ _ _ (by omega)
    refine ⟨h.defers, by simpa [Act.put] using h.size, h.lt, fun t => ?_, fun t => ?_⟩
    · rw [hget]
      by_cases ht : t = d
      · subst ht
        rw [if_pos rfl]
        have : (a.put (some t) v).tmps.getD t undef = v := by
          simp [Act.put, show t < a.tmps.size from by omega]
        rw [this]; exact hv
      · rw [if_neg ht]
        have : (a.put (some d) v).tmps.getD t undef = a.tmps.getD t undef := by
          simp [Act.put, Ne.symm ht]
        rw [this]; exact h.rel t
    · rw [hget]
      split
      · exact hm
      · exact h.on t
theorem Fr.rel_agree {Γ Γ' : Ctx} {L L' : Nat → Prop} {N : Nat} {fr : Fr} {a : Act} (h : Fr.rel Γ L N fr a) (ha : Agree Γ Γ' L) (hl : ∀ j, L j → L' j) : Fr.rel Γ' L' N fr a :=
  ⟨h.defers, h.size, h.lt, fun t => MV.rel_agree ha (h.on t) (h.rel t), fun t => MV.on_mono hl (h.on t)⟩
theorem St.rel_mono {Γ : Ctx} {L L' : Nat → Prop} {S : St} {w : World} (h : S.rel Γ L w) (hl : ∀ j, L j → L' j) : S.rel Γ L' w :=
  ⟨h.rel, fun j => Blk.on_mono hl (h.on j), fun j hj => hl j (h.live j hj), h.inj⟩
theorem At.bound {L0 : Nat → Prop} {Γ0 Γ : Ctx} {S0 : St} {w0 w : World} {l : Leaf} {a : Act} (h : At L0 Γ0 S0 w0 Γ l a w) : ∀ j, Sc L0 S0.n l.S.n j → j < l.S.n := Sc.lt h.lt h.far.n
/-- One operation more. -/
theorem At.step {L0 : Nat → Prop} {Γ0 Γ Γ' : Ctx} {S0 : St} {w0 w w' : World} {l : Leaf} {a : Act} {r : Res} {g : Facts} {v : Value} {dst : Option Nat} (h : At L0 Γ0 S0 w0 Γ l a w) (hs : Step Γ Γ' (Sc L0 S0.n l.S.n) l.S r w w') (hv : r.mv.rel Γ' v)
    (hg : g.hold Γ.ρ) (hd : ∀ d, dst = some d → d < l.N) (hn : l.S.n + r.new.length ≤ 4000) :
    At L0 Γ0 S0 w0 Γ' { l with fr := putM l.fr dst r.mv, S := l.S.app r, fs := g, d := r.upd.map (·.1) ++ l.d } (a.put dst v) w' := by
  have hbd := h.bound
  have ha := hs.agree (fun j hj hc => by have := hbd j hj; omega)
  have hnn : (l.S.app r).n = l.S.n + r.new.length := St.n_app _ _
  refine ⟨h.lt, ?_, ?_, by rw [hs.ρ]; exact hg, h.far.step h.S hbd hs hn⟩
  · show Fr.rel Γ' (Sc L0 S0.n (l.S.app r).n) l.N (putM l.fr dst r.mv) (a.put dst v)
    rw [hnn]
    exact Fr.rel_put (Fr.rel_agree h.fr ha fun j hj => Sc.mono (by omega) j hj) hv (MV.on_mono (Sc.or h.far.n) hs.onMv) hd
  · show (l.S.app r).rel Γ' (Sc L0 S0.n (l.S.app r).n) w'
    rw [hnn]
    exact St.rel_mono (St.rel_step h.S hs hbd hn) (Sc.or h.far.n)
/-- An operation that is not wanted. -/
theorem At.skip {L0 : Nat → Prop} {Γ0 Γ : Ctx} {S0 : St} {w0 w : World} {l : Leaf} {a : Act} {dst : Option Nat} (h : At L0 Γ0 S0 w0 Γ l a w) (hd : ∀ d, dst = some d → d < l.N) :
    At L0 Γ0 S0 w0 Γ { l with fr := putM l.fr dst .und } (a.put dst undef) w :=
  ⟨h.lt, Fr.rel_put h.fr rfl trivial hd, h.S, h.fs, h.far⟩
theorem At.facts {L0 : Nat → Prop} {Γ0 Γ : Ctx} {S0 : St} {w0 w : World} {l : Leaf} {a : Act} {g : Facts} (h : At L0 Γ0 S0 w0 Γ l a w) (hg : g.hold Γ.ρ) : At L0 Γ0 S0 w0 Γ { l with fs := g } a w :=
  ⟨h.lt, h.fr, h.S, hg, h.far⟩

/-! ### Two ways meet -/
theorem joinC_den {ρ : Val} {e : E} {a b m : MC} (h : joinC e a b = some m) (Γ : Ctx) (hρ : Γ.ρ = ρ) : m.den Γ = if e.T ρ = true then a.den Γ else b.den Γ := by
  subst hρ
  unfold joinC at h
  split at h
  · rename_i hb
    cases h
    rw [← MC.eq_of hb, ite_self]
  · split at h
    · split at h
      · rename_i hk
        have hk := kbeq_eq hk
        subst hk
        cases h
        simp only [MC.den, mkIteN_I]
        split <;> rfl
      · cases h
    · cases h
      simp only [MC.den, mkIteT_T]
      split <;> rfl
    · cases h
theorem joinC_on {e : E} {a b m : MC} {L : Nat → Prop} (h : joinC e a b = some m) (ha : a.on L) : m.on L := by
  unfold joinC at h
  split at h
  · cases h; exact ha
  · split at h
    · split at h
      · cases h; trivial
      · cases h
    · cases h; trivial
    · cases h
theorem joinC_on' {e : E} {a b m : MC} {L : Nat → Prop} (h : joinC e a b = some m) (hb : b.on L) : m.on L := by
  unfold joinC at h
  split at h
  · rename_i hbe; cases h; rw [MC.eq_of hbe]; exact hb
  · split at h
    · split at h
      · cases h; trivial
      · cases h
    · cases h; trivial
    · cases h
theorem joinCs_den {e : E} (Γ : Ctx) : ∀ {a b m : List MC}, joinCs e a b = some m → densOf Γ m = if e.T Γ.ρ = true then densOf Γ a else densOf Γ b
  | [], [], m, h => by simp only [joinCs, Option.some.injEq] at h; subst h; simp [densOf]
  | x :: a, y :: b, m, h => by
    simp only [joinCs] at h
    split at h
    · rename_i p q hp hq
      cases h
      have h1 := joinC_den hp Γ rfl
      have h2 := joinCs_den Γ hq
      simp only [densOf, List.map_cons] at h2 ⊢
      rw [h1, h2]
      split <;> rfl
    · cases h
  | [], _ :: _, m, h => by simp [joinCs] at h
  | _ :: _, [], m, h => by simp [joinCs] at h
theorem joinCs_on {e : E} {L : Nat → Prop} : ∀ {a b m : List MC}, joinCs e a b = some m → (csOn L a ∨ csOn L b) → csOn L m
  | [], [], m, h, _ => by simp only [joinCs, Option.some.injEq] at h; subst h; exact fun x hx => absurd hx (by simp)
  | x :: a, y :: b, m, h, ho => by
    simp only [joinCs] at h
    split at h
    · rename_i p q hp hq
      cases h
      intro z hz
      rcases List.mem_cons.1 hz with rfl | hz
      · exact ho.elim (fun ho => joinC_on hp (ho x (by simp))) (fun ho => joinC_on' hp (ho y (by simp)))
      · exact joinCs_on hq (ho.imp (fun ho m hm => ho m (by simp [hm])) (fun ho m hm => ho m (by simp [hm]))) z hz
    · cases h
  | [], _ :: _, m, h, _ => by simp [joinCs] at h
  | _ :: _, [], m, h, _ => by simp [joinCs] at h
theorem joinCs_length {e : E} : ∀ {a b m : List MC}, joinCs e a b = some m → m.length = a.length ∧ m.length = b.length
  | [], [], m, h => by simp only [joinCs, Option.some.injEq] at h; subst h; exact ⟨rfl, rfl⟩
  | x :: a, y :: b, m, h => by
    simp only [joinCs] at h
    split at h
    · rename_i p q hp hq
      cases h
      obtain ⟨h1, h2⟩ := joinCs_length hq
      simp only [List.length_cons]; omega
    · cases h
  | [], _ :: _, m, h => by simp [joinCs] at h
  | _ :: _, [], m, h => by simp [joinCs] at h
/-- A joined value stands for each side's. -/
theorem joinV_rel {e : E} {a b : MV} {Γ : Ctx} {L : Nat → Prop} {v : Value} {s : Bool} (he : e.T Γ.ρ = s) (h : (if s = true then a else b).rel Γ v) (ho : (if s = true then a else b).on L) : (joinV e a b).rel Γ v ∧ (joinV e a b).on L := by
  unfold joinV
  split
  · cases s <;> exact ⟨h, ho⟩
  · split
    · rename_i m hm
      have hd := joinC_den hm Γ rfl
      cases s
      · simp only [he, Bool.false_eq_true, if_false] at hd h ho
        exact ⟨by rw [MV.rel_c h]; exact hd.symm, joinC_on' hm ho⟩
      · simp only [he, if_true] at hd h ho
        exact ⟨by rw [MV.rel_c h]; exact hd.symm, joinC_on hm ho⟩
    · exact ⟨trivial, trivial⟩
  · split
    · rename_i m hm
      have hd := joinCs_den Γ hm
      cases s
      · simp only [he, Bool.false_eq_true, if_false] at hd h ho
        exact ⟨by rw [MV.rel_agg h]; simp only [MV.rel, MV.den, hd], joinCs_on hm (.inr ho)⟩
      · simp only [he, if_true] at hd h ho
        exact ⟨by rw [MV.rel_agg h]; simp only [MV.rel, MV.den, hd], joinCs_on hm (.inl ho)⟩
    · exact ⟨trivial, trivial⟩
  · exact ⟨trivial, trivial⟩
theorem joinFr_get (e : E) : ∀ (f g : Fr) (t : Nat), (joinFr e f g).get .unk t = joinV e (f.get .unk t) (g.get .unk t) ∨ (joinFr e f g).get .unk t = .unk
  | .n l v r, .n l' v' r', t => by
    rcases Tri.cases3 t with rfl | ⟨t, rfl⟩ | ⟨t, rfl⟩
    · exact .inl rfl
    · simp only [joinFr, Tri.get_n_odd]; exact joinFr_get e l l' t
    · simp only [joinFr, Tri.get_n_even]; exact joinFr_get e r r' t
  | .e, _, t => .inr rfl
  | .n _ _ _, .e, t => .inr rfl
theorem joinBs_get (e : E) : ∀ (f g : Tri Blk) (t : Nat), (joinBs e f g).get .gone t = joinB e (f.get .gone t) (g.get .gone t) ∨ (joinBs e f g).get .gone t = .gone
  | .n l v r, .n l' v' r', t => by
    rcases Tri.cases3 t with rfl | ⟨t, rfl⟩ | ⟨t, rfl⟩
    · exact .inl rfl
    · simp only [joinBs, Tri.get_n_odd]; exact joinBs_get e l l' t
    · simp only [joinBs, Tri.get_n_even]; exact joinBs_get e r r' t
  | .e, _, t => .inr rfl
  | .n _ _ _, .e, t => .inr rfl
/-- A joined block stands for each side's; it is not gone only if neither side's is. -/
theorem joinB_rel {e : E} {a b : Blk} {Γ : Ctx} {L : Nat → Prop} {w : World} {j : Nat} {s : Bool} (he : e.T Γ.ρ = s) (h : (if s = true then a else b).rel Γ w j) (ho : (if s = true then a else b).on L) :
    (joinB e a b).rel Γ w j ∧ (joinB e a b).on L ∧ (¬ (joinB e a b).Gone → ¬ a.Gone ∧ ¬ b.Gone) := by
  unfold joinB
  split
  · rename_i x t q y t' q'
    split
    · rename_i hc
      rw [Bool.and_eq_true] at hc
      have ht := Nat.eq_of_beq_eq_true hc.1
      have hq := Nat.eq_of_beq_eq_true hc.2
      subst ht hq
      split
      · rename_i m hm
        have hd := joinCs_den Γ hm
        have hl := joinCs_length hm
        refine ⟨?_, ?_, fun _ => ⟨by simp [Blk.Gone], by simp [Blk.Gone]⟩⟩
        · cases s
          · simp only [he, Bool.false_eq_true, if_false] at hd h
            obtain ⟨rest, h1, h2, h3⟩ := h
            exact ⟨rest, by rw [hd]; exact h1, h2, fun hq => by rw [hl.2]; exact h3 hq⟩
          · simp only [he, if_true] at hd h
            obtain ⟨rest, h1, h2, h3⟩ := h
            exact ⟨rest, by rw [hd]; exact h1, h2, fun hq => by rw [hl.1]; exact h3 hq⟩
        · cases s
          · exact joinCs_on hm (.inr ho)
          · exact joinCs_on hm (.inl ho)
      · exact ⟨trivial, trivial, fun h => absurd rfl h⟩
    · exact ⟨trivial, trivial, fun h => absurd rfl h⟩
  · rename_i x ks lo n t w1 tl y ks' lo' n' t' w1' tl'
    split
    · rename_i hc
      have hc := Blk.eq_of hc
      simp only [Blk.arr.injEq, true_and] at hc
      obtain ⟨h1, h2, h3, h4, h5, h6⟩ := hc
      subst h1 h2 h3 h4 h5 h6
      refine ⟨?_, ?_, fun _ => ⟨by simp [Blk.Gone], by simp [Blk.Gone]⟩⟩
      · cases s
        · simp only [Bool.false_eq_true, if_false] at h
          obtain ⟨cs, fr, a, m, tt, h1, h2, h3, h4, h5, h6⟩ := h
          exact ⟨cs, fr, a, m, tt, h1, h2, h3, h4, fun i hi => by rw [h5 i hi, mkIteI_A, he]; rfl, h6⟩
        · simp only [if_true] at h
          obtain ⟨cs, fr, a, m, tt, h1, h2, h3, h4, h5, h6⟩ := h
          exact ⟨cs, fr, a, m, tt, h1, h2, h3, h4, fun i hi => by rw [h5 i hi, mkIteI_A, he]; rfl, h6⟩
      · cases s <;> exact ho
    · exact ⟨trivial, trivial, fun h => absurd rfl h⟩
  · exact ⟨trivial, trivial, fun h => absurd rfl h⟩
/-- A joined leaf says no more than each side's. -/
theorem elemN_mem {x : Nat} : ∀ {l : List Nat}, elemN x l = true → x ∈ l
  | [], h => by simp [elemN] at h
  | y :: r, h => by
    simp only [elemN, Bool.or_eq_true] at h
    rcases h with h | h
    · rw [Nat.eq_of_beq_eq_true h]; simp
    · exact List.mem_cons.2 (.inr (elemN_mem h))
theorem mem_joinD {x : Nat} : ∀ {a b : List Nat}, (x ∈ a ∨ x ∈ b) → x ∈ joinD a b
  | [], b, h => by simpa [joinD] using h
  | y :: r, b, h => by
    unfold joinD
    split
    · rename_i he
      refine mem_joinD (h.elim (fun h => ?_) .inr)
      rcases List.mem_cons.1 h with rfl | h
      · exact .inr (elemN_mem he)
      · exact .inl h
    · refine mem_joinD (h.elim (fun h => ?_) fun h => .inr (List.mem_cons.2 (.inr h)))
      rcases List.mem_cons.1 h with rfl | h
      · exact .inr (by simp)
      · exact .inl h
theorem At.join {L0 : Nat → Prop} {Γ0 Γ : Ctx} {S0 : St} {w0 w : World} {x y : Leaf} {a : Act} {e : E} {fs : Facts} {s : Bool} (he : e.T Γ.ρ = s) (hfs : fs.hold Γ.ρ) (hN : x.N = y.N) (h : At L0 Γ0 S0 w0 Γ (if s = true then x else y) a w) :
    At L0 Γ0 S0 w0 Γ { ex := x.ex, N := x.N, fr := joinFr e x.fr y.fr, S := joinSt e x.S y.S, fs := fs, d := joinD x.d y.d } a w := by
  have hn : (if s = true then x else y).S.n ≤ (joinSt e x.S y.S).n := by
    simp only [joinSt]
    cases s <;> simp only [Bool.false_eq_true, if_false, if_true] <;> split <;> omega
  have hgetS : ∀ j, (joinSt e x.S y.S).get j = joinB e (x.S.get j) (y.S.get j) ∨ (joinSt e x.S y.S).get j = .gone := fun j => joinBs_get e x.S.t y.S.t j
  have hBr : ∀ j, ((joinSt e x.S y.S).get j).rel Γ w j ∧ ((joinSt e x.S y.S).get j).on (Sc L0 S0.n (joinSt e x.S y.S).n) ∧ (¬ ((joinSt e x.S y.S).get j).Gone → ¬ ((if s = true then x else y).S.get j).Gone) := fun j => by
    have hr : (if s = true then x.S.get j else y.S.get j).rel Γ w j := by cases s <;> exact h.S.rel j
    have ho : (if s = true then x.S.get j else y.S.get j).on (Sc L0 S0.n (joinSt e x.S y.S).n) := by cases s <;> exact Blk.on_mono (Sc.mono hn) (h.S.on j)
    rcases hgetS j with hg | hg
    · obtain ⟨h1, h2, h3⟩ := joinB_rel he hr ho
      rw [hg]
      refine ⟨h1, h2, fun hng => ?_⟩
      have := h3 hng
      cases s
      · exact this.2
      · exact this.1
    · rw [hg]; exact ⟨trivial, trivial, fun h => absurd rfl h⟩
  refine ⟨h.lt, ⟨h.fr.defers, ?_, ?_, fun t => ?_, fun t => ?_⟩, ⟨fun j => (hBr j).1, fun j => (hBr j).2.1, fun j hj => Sc.mono hn _ (h.S.live j ((hBr j).2.2 hj)), fun i j hi hj hij => h.S.inj i j ((hBr i).2.2 hi) ((hBr j).2.2 hj) hij⟩, hfs,
    { ρ := h.far.ρ, n := Nat.le_trans h.far.n hn, id := h.far.id, sz := h.far.sz, os := h.far.os, tape := h.far.tape, output := h.far.output, size := h.far.size, keep := fun k hk hj => h.far.keep k hk fun j hjd => hj j (mem_joinD (by cases s <;> simp_all)), fresh := fun j hj hg => ?_, gone := fun j hj hg => h.far.gone j hj ((hBr j).2.2 hg) }⟩
  · have := h.fr.size; cases s
    · simpa [hN] using this
    · exact this
  · have := h.fr.lt; cases s
    · simpa [hN] using this
    · exact this
  · rcases joinFr_get e x.fr y.fr t with hg | hg
    · rw [hg]
      exact (joinV_rel (L := Sc L0 S0.n (if s = true then x else y).S.n) he (by cases s <;> exact h.fr.rel t) (by cases s <;> exact h.fr.on t)).1
    · rw [hg]; trivial
  · rcases joinFr_get e x.fr y.fr t with hg | hg
    · rw [hg]
      exact MV.on_mono (Sc.mono hn) (joinV_rel (v := a.tmps.getD t undef) (L := Sc L0 S0.n (if s = true then x else y).S.n) he (by cases s <;> exact h.fr.rel t) (by cases s <;> exact h.fr.on t)).2
    · rw [hg]; trivial
  · rcases h.far.fresh j hj ((hBr j).2.2 hg) with h1 | ⟨p, hp, h2⟩
    · exact .inl h1
    · exact .inr ⟨p, mem_joinD (by cases s <;> simp_all), h2⟩
end Sx
end Go.Proofs.Ytigblagodlfedaa
