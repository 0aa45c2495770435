/- The symbolic run: equality, operators, conversions. -/
import Derived.Test.YtigblagodlfedaaSxf
import Derived.ChangeKeysEq
namespace Go.Proofs.Ytigblagodlfedaa
namespace Sx
open Go.RowKit

/-- A value of a type, by its cells. -/
def isV (P : Program) (Γ : Ctx) (t : Nat) (xs : List MC) (v : Value) : Prop :=
  (aggB P t = some true → v = .agg (densOf Γ xs).toArray) ∧ (aggB P t = some false → ∀ m, xs = [m] → v = m.den Γ)
theorem flatEq_shape {P : Program} {bs : Bds} {fs : Facts} {d t : Nat} {xs ys : List MC} {e : E} (h : flatEq P bs fs d t xs ys = some e) :
    aggB P t = some true ∨ (aggB P t = some false ∧ (∃ m, xs = [m]) ∧ (∃ m, ys = [m])) := by
  cases d with
  | zero => simp [flatEq] at h
  | succ d =>
    simp only [flatEq] at h
    unfold aggB
    split at h
    · rename_i hu
      rw [hu]
      split at h
      · exact .inr ⟨rfl, ⟨_, rfl⟩, ⟨_, rfl⟩⟩
      · cases h
    · rename_i hu
      rw [hu]
      split at h
      · exact .inr ⟨rfl, ⟨_, rfl⟩, ⟨_, rfl⟩⟩
      · cases h
    · rename_i hu
      rw [hu]
      split at h
      · exact .inr ⟨rfl, ⟨_, rfl⟩, ⟨_, rfl⟩⟩
      · exact .inr ⟨rfl, ⟨_, rfl⟩, ⟨_, rfl⟩⟩
      · cases h
    · rename_i hu; rw [hu]; exact .inl rfl
    · rename_i hu; rw [hu]; exact .inl rfl
    · cases h
theorem take_one {xs : List MC} {off s : Nat} {m : MC} (h : (xs.drop off).take s = [m]) : xs[off]? = some m := by
  have h1 : ((xs.drop off).take s)[0]? = some m := by rw [h]; rfl
  rw [List.getElem?_take] at h1
  split at h1
  · rw [List.getElem?_drop] at h1; simpa using h1
  · cases h1
theorem take_self {xs : List MC} {off s : Nat} (h : off + s ≤ xs.length) : ((xs.drop off).take s).length = s := by simp; omega
/-- A part, as equality takes it. -/
theorem part_isV {P : Program} {Γ : Ctx} {t off s : Nat} {xs : List MC} (hs : szB P t = some s) (hle : off + s ≤ xs.length)
    (ha : aggB P t = some true ∨ (aggB P t = some false ∧ ∃ m, (xs.drop off).take s = [m])) (w : World) :
    ∃ v, (part t (densOf Γ xs).toArray off).run P w = .ok v w ∧ isV P Γ t ((xs.drop off).take s) v := by
  rcases ha with ha | ⟨ha, m, hm⟩
  · have hp : partM P t xs off = some (.agg ((xs.drop off).take s)) := by unfold partM; simp only [ha, hs]; rw [if_pos hle]
    obtain ⟨v, hv, hr⟩ := partM_run hp Γ [] w
    rw [List.append_nil] at hv
    exact ⟨v, hv, fun _ => MV.rel_agg hr, fun h => by rw [ha] at h; cases h⟩
  · have hp : partM P t xs off = some (.c m) := by unfold partM; simp only [ha, take_one hm]
    obtain ⟨v, hv, hr⟩ := partM_run hp Γ [] w
    rw [List.append_nil] at hv
    refine ⟨v, hv, ⟨fun h => ?_, fun _ n hn => ?_⟩⟩
    · rw [ha] at h; cases h
    · rw [hm] at hn
      cases hn
      exact MV.rel_c hr
/-- What equality by parts is held against. -/
def EqAtD (P : Program) (Γ : Ctx) (rec : Nat → List MC → List MC → Option E) (D : Nat) : Prop :=
  ∀ t xs ys e, rec t xs ys = some e → (aggB P t = some true ∨ (aggB P t = some false ∧ (∃ m, xs = [m]) ∧ (∃ m, ys = [m]))) ∧
    ∀ vx vy, isV P Γ t xs vx → isV P Γ t ys vy → ∀ w, (Op.equalIn D t vx vy).run P w = .ok (e.T Γ.ρ) w
theorem shape_l {P : Program} {t : Nat} {xs ys : List MC} (h : aggB P t = some true ∨ (aggB P t = some false ∧ (∃ m, xs = [m]) ∧ (∃ m, ys = [m]))) : aggB P t = some true ∨ (aggB P t = some false ∧ ∃ m, xs = [m]) := h.imp id fun h => ⟨h.1, h.2.1⟩
theorem shape_r {P : Program} {t : Nat} {xs ys : List MC} (h : aggB P t = some true ∨ (aggB P t = some false ∧ (∃ m, xs = [m]) ∧ (∃ m, ys = [m]))) : aggB P t = some true ∨ (aggB P t = some false ∧ ∃ m, ys = [m]) := h.imp id fun h => ⟨h.1, h.2.2⟩
theorem eqFields_sound {P : Program} {Γ : Ctx} {rec : Nat → List MC → List MC → Option E} {D : Nat} (hr : EqAtD P Γ rec D) {xs ys : List MC} : ∀ {fs : List Field} {e : E}, eqFields P rec xs ys fs = some e →
    ∀ w, (Op.eqFields D (densOf Γ xs).toArray (densOf Γ ys).toArray fs).run P w = .ok (e.T Γ.ρ) w
  | [], e, h, w => by
    simp only [eqFields, Option.some.injEq] at h
    subst h
    simp [Op.eqFields, E.T]
  | f :: fs, e, h, w => by
    simp only [eqFields] at h
    split at h
    · cases h
    · rename_i hn
      split at h
      · rename_i s hs
        split at h
        · rename_i hle
          split at h
          · rename_i a b ha hb
            cases h
            obtain ⟨hsh, hq⟩ := hr _ _ _ _ ha
            obtain ⟨vx, p1, i1⟩ := part_isV (Γ := Γ) hs hle.1 (shape_l hsh) w
            obtain ⟨vy, p2, i2⟩ := part_isV (Γ := Γ) hs hle.2 (shape_r hsh) w
            have ih := eqFields_sound hr hb w
            simp only [Op.eqFields, ne_eq, hn, not_false_eq_true, if_true, Sem.run_bind, p1, p2, hq vx vy i1 i2 w, Result.andThen_ok]
            rw [mkAnd_T]
            cases a.T Γ.ρ
            · simp
            · simpa using ih
          · cases h
        · cases h
      · cases h
theorem eqElems_sound {P : Program} {Γ : Ctx} {rec : Nat → List MC → List MC → Option E} {D el s : Nat} (hr : EqAtD P Γ rec D) (hs : szB P el = some s) {xs ys : List MC} : ∀ {n i : Nat} {e : E}, eqElems (rec el) s xs ys n i = some e →
    ∀ w, (Op.eqItems D el s (densOf Γ xs).toArray (densOf Γ ys).toArray (List.range' i n)).run P w = .ok (e.T Γ.ρ) w
  | 0, i, e, h, w => by
    simp only [eqElems, Option.some.injEq] at h
    subst h
    simp [Op.eqItems, E.T]
  | n + 1, i, e, h, w => by
    simp only [eqElems] at h
    split at h
    · rename_i hle
      split at h
      · rename_i a b ha hb
        cases h
        obtain ⟨hsh, hq⟩ := hr _ _ _ _ ha
        obtain ⟨vx, p1, i1⟩ := part_isV (Γ := Γ) hs hle.1 (shape_l hsh) w
        obtain ⟨vy, p2, i2⟩ := part_isV (Γ := Γ) hs hle.2 (shape_r hsh) w
        have ih := eqElems_sound hr hs hb w
        rw [List.range'_succ]
        simp only [Op.eqItems, Sem.run_bind, p1, p2, hq vx vy i1 i2 w, Result.andThen_ok]
        rw [mkAnd_T]
        cases a.T Γ.ρ
        · simp
        · simpa using ih
      · cases h
    · cases h
theorem fieldsOf_eq {P : Program} {t : Nat} {fields : Array Field} (h : P.underlying t = some (.struct fields)) : P.fieldsOf t = fields := by unfold Program.fieldsOf; rw [h]
theorem bool_ite (a b : Bool) : (if a = true then b else !b) = (a == b) := by cases a <;> cases b <;> rfl
theorem flatEq_sound {P : Program} {bs : Bds} {fs : Facts} {Γ : Ctx} (hb : bs.hold Γ.ρ) (hf : fs.hold Γ.ρ) : ∀ (d k : Nat), EqAtD P Γ (flatEq P bs fs d) (d + k)
  | 0, k => fun t xs ys e h => by simp [flatEq] at h
  | d + 1, k => fun t xs ys e h => by
    refine ⟨flatEq_shape h, fun vx vy hx hy w => ?_⟩
    have hsh := flatEq_shape h
    rw [show d + 1 + k = (d + k) + 1 from by omega]
    simp only [flatEq] at h
    split at h
    · rename_i k0 hu
      have ha : aggB P t = some false := by unfold aggB; rw [hu]
      split at h
      · split at h
        · rename_i hk
          have hk := kbeq_eq hk
          subst hk
          cases h
          rw [hx.2 ha _ rfl, hy.2 ha _ rfl]
          simp only [MC.den]
          rw [run_equalIn_int w _ t _ k0 _ _ hu, mkEq_T hb hf]
        · cases h
      · cases h
    · rename_i hu
      have ha : aggB P t = some false := by unfold aggB; rw [hu]
      split at h
      · cases h
        rw [hx.2 ha _ rfl, hy.2 ha _ rfl]
        simp only [MC.den]
        rw [run_equalIn_bool' w _ t _ _ hu, mkIteT_T, mkNot_T, bool_ite]
      · cases h
    · rename_i hu
      have ha : aggB P t = some false := by unfold aggB; rw [hu]
      split at h
      · cases h
        rw [hx.2 ha _ rfl, hy.2 ha _ rfl]
        simp only [MC.den]
        rw [run_equalIn_string w _ t _ _ hu]
        simp [E.T]
      · cases h
        rw [hx.2 ha _ rfl, hy.2 ha _ rfl]
        simp only [MC.den]
        rw [run_equalIn_string w _ t _ _ hu, settle_T hf]
        simp [E.T]
      · cases h
    · rename_i fields hu
      have ha : aggB P t = some true := by unfold aggB; rw [hu]
      split at h
      · cases h
      · rename_i hst
        rw [hx.1 ha, hy.1 ha, run_equalIn_struct w _ t _ _ (by rw [fieldsOf_eq hu]; exact hu) (by simpa using hst), fieldsOf_eq hu]
        exact eqFields_sound (flatEq_sound hb hf d k) h w
    · rename_i len el hu
      have ha : aggB P t = some true := by unfold aggB; rw [hu]
      split at h
      · rename_i s hs
        obtain ⟨i, hi, his⟩ := szB_info hs
        rw [hx.1 ha, hy.1 ha, run_equalIn_array w _ _ _ hu hi]
        have hc : P.cellsOf el = s := by simp [Program.cellsOf, hi, his]
        rw [hc, List.range_eq_range']
        exact eqElems_sound (flatEq_sound hb hf d k) hs h w
      · cases h
    · cases h
theorem run_eqGuard_mc {P : Program} (Γ : Ctx) (op : BinOp) (t : Nat) (x y : Operand) (m n : MC) (w : World) : (eqGuard op t x y (m.den Γ) (n.den Γ)).run P w = .ok () w := by
  unfold eqGuard
  cases op <;> cases m <;> simp [MC.den]
theorem run_equalIn_ptr {P : Program} (d t el : Nat) (a b : Option Addr) (hu : P.underlying t = some (.pointer el)) (h : a = none ∨ b = none) (w : World) :
    (Op.equalIn (d + 1) t (.pointer a) (.pointer b)).run P w = .ok (a.isNone && b.isNone) w := by
  rcases h with rfl | rfl
  · simp [Op.equalIn, run_underlying hu]
  · cases a <;> simp [Op.equalIn, run_underlying hu]
theorem run_eql_ptr {P : Program} (t el : Nat) (a b : Option Addr) (hu : P.underlying t = some (.pointer el)) (h : a = none ∨ b = none) (w : World) :
    (binOp .eql t (.pointer a) (.pointer b)).run P w = .ok (.bool (a.isNone && b.isNone)) w ∧ (binOp .neq t (.pointer a) (.pointer b)).run P w = .ok (.bool (!(a.isNone && b.isNone))) w := by
  have hq := run_equalIn_ptr 9999 t el a b hu h w
  have e1 : binOp .eql t (.pointer a) (.pointer b) = (do pure (.bool (← Op.equal t (.pointer a) (.pointer b)))) := rfl
  have e2 : binOp .neq t (.pointer a) (.pointer b) = (do pure (.bool (!(← Op.equal t (.pointer a) (.pointer b))))) := rfl
  have e3 : Op.equal t (.pointer a) (.pointer b) = Op.equalIn (9999 + 1) t (.pointer a) (.pointer b) := rfl
  rw [e1, e2, e3]
  simp only [Sem.run_bind, hq, Result.andThen_ok, Sem.run_pure, and_self]
/-- What stands at a place of a row of bytes. -/
def atV (ρ : Val) (xs : List MC) (i : Nat) : Int := match xs[i]? with | some (.int _ a) => a.I ρ | _ => 0
theorem atV_part (ρ : Val) (xs : List MC) (o s i : Nat) (h : i < s) : atV ρ ((xs.drop o).take s) i = atV ρ xs (o + i) := by
  unfold atV
  rw [List.getElem?_take, if_pos h, List.getElem?_drop]
def BytesL (xs : List MC) : Prop := ∀ m ∈ xs, ∃ a, m = .int .u8 a
theorem BytesL.part {xs : List MC} (h : BytesL xs) (o s : Nat) : BytesL ((xs.drop o).take s) := fun m hm => h m (List.mem_of_mem_drop (List.mem_of_mem_take hm))
theorem eqFields_two {P : Program} {ρ : Val} {rec : Nat → List MC → List MC → Option E} {rb : Nat → Option Nat}
    (hr : ∀ t n, rb t = some n → ∀ xs ys : List MC, xs.length = n → ys.length = n → BytesL xs → BytesL ys → ∃ e, rec t xs ys = some e ∧ (e.T ρ = true ↔ ∀ i, i < n → atV ρ xs i = atV ρ ys i))
    {xs ys : List MC} (hx : BytesL xs) (hy : BytesL ys) : ∀ (fs : List Field) (off n : Nat), bytesF rb P off fs = some n → n ≤ xs.length → n ≤ ys.length →
      off ≤ n ∧ ∃ e, eqFields P rec xs ys fs = some e ∧ (e.T ρ = true ↔ ∀ i, off ≤ i → i < n → atV ρ xs i = atV ρ ys i)
  | [], off, n, h, _, _ => by simp only [bytesF, Option.some.injEq] at h; subst h; exact ⟨Nat.le_refl _, .bl true, rfl, by simp only [E.T, true_iff]; intro i h1 h2; omega⟩
  | f :: r, off, n, h, hl, hl' => by
    unfold bytesF at h
    split at h
    · cases h
    · rename_i hname
      split at h
      · rename_i s k hs hk
        split at h
        · rename_i hc
          obtain ⟨ho, rfl⟩ := hc
          obtain ⟨h1, e2, h2, h3⟩ := eqFields_two hr hx hy r (off + s) n h hl hl'
          obtain ⟨e1, h4, h5⟩ := hr f.type s hk ((xs.drop f.offset).take s) ((ys.drop f.offset).take s) (by rw [List.length_take, List.length_drop]; omega) (by rw [List.length_take, List.length_drop]; omega) (hx.part _ _) (hy.part _ _)
          refine ⟨by omega, mkAnd e1 e2, ?_, ?_⟩
          · unfold eqFields
            rw [if_neg hname, hs]
            simp only
            rw [if_pos (by omega), h4, h2]
          · rw [mkAnd_T, Bool.and_eq_true, h5, h3]
            constructor
            · rintro ⟨p1, p2⟩ i q1 q2
              by_cases hi : i < off + s
              · have := p1 (i - off) (by omega)
                rw [atV_part _ _ _ _ _ (by omega), atV_part _ _ _ _ _ (by omega), ho, show off + (i - off) = i from by omega] at this
                exact this
              · exact p2 i (by omega) q2
            · intro p
              refine ⟨fun i hi => ?_, fun i q1 q2 => p i (by omega) q2⟩
              rw [atV_part _ _ _ _ _ hi, atV_part _ _ _ _ _ hi, ho]
              exact p (off + i) (by omega) (by omega)
        · cases h
      · cases h
theorem eqElems_two {ρ : Val} {rec : List MC → List MC → Option E} {s : Nat}
    (hr : ∀ xs ys : List MC, xs.length = s → ys.length = s → BytesL xs → BytesL ys → ∃ e, rec xs ys = some e ∧ (e.T ρ = true ↔ ∀ i, i < s → atV ρ xs i = atV ρ ys i))
    {xs ys : List MC} (hx : BytesL xs) (hy : BytesL ys) : ∀ (n i : Nat), (i + n) * s ≤ xs.length → (i + n) * s ≤ ys.length →
      ∃ e, eqElems rec s xs ys n i = some e ∧ (e.T ρ = true ↔ ∀ j, i * s ≤ j → j < (i + n) * s → atV ρ xs j = atV ρ ys j)
  | 0, i, _, _ => ⟨.bl true, rfl, by simp only [E.T, true_iff]; intro j h1 h2; rw [Nat.add_zero] at h2; omega⟩
  | n + 1, i, h, h' => by
    have hs : (i + 1) * s ≤ (i + (n + 1)) * s := Nat.mul_le_mul_right _ (by omega)
    have hsm : (i + 1) * s = i * s + s := Nat.succ_mul _ _
    obtain ⟨e1, h4, h5⟩ := hr ((xs.drop (i * s)).take s) ((ys.drop (i * s)).take s) (by rw [List.length_take, List.length_drop]; omega) (by rw [List.length_take, List.length_drop]; omega) (hx.part _ _) (hy.part _ _)
    have hin : i + 1 + n = i + (n + 1) := by omega
    obtain ⟨e2, h2, h3⟩ := eqElems_two hr hx hy n (i + 1) (by rw [hin]; exact h) (by rw [hin]; exact h')
    rw [hin] at h3
    refine ⟨mkAnd e1 e2, ?_, ?_⟩
    · unfold eqElems
      rw [if_pos ⟨by omega, by omega⟩, h4, h2]
    · rw [mkAnd_T, Bool.and_eq_true, h5, h3]
      constructor
      · rintro ⟨p1, p2⟩ j q1 q2
        by_cases hj : j < i * s + s
        · have := p1 (j - i * s) (by omega)
          rw [atV_part _ _ _ _ _ (by omega), atV_part _ _ _ _ _ (by omega), show i * s + (j - i * s) = j from by omega] at this
          exact this
        · exact p2 j (by omega) q2
      · intro p
        refine ⟨fun j hj => ?_, fun j q1 q2 => p j (by omega) q2⟩
        rw [atV_part _ _ _ _ _ hj, atV_part _ _ _ _ _ hj]
        exact p (i * s + j) (by omega) (by omega)
theorem bytesT_two {P : Program} {bs : Bds} {fs : Facts} {ρ : Val} (hb : bs.hold ρ) (hf : fs.hold ρ) : ∀ (d t n : Nat), bytesT P d t = some n → ∀ xs ys : List MC, xs.length = n → ys.length = n → BytesL xs → BytesL ys →
    ∃ e, flatEq P bs fs d t xs ys = some e ∧ (e.T ρ = true ↔ ∀ i, i < n → atV ρ xs i = atV ρ ys i)
  | 0, _, _, h, _, _, _, _, _, _ => by simp [bytesT] at h
  | d + 1, t, n, h, xs, ys, hl, hl', hx, hy => by
    unfold bytesT at h
    split at h
    · rename_i hu
      cases h
      obtain ⟨m, rfl⟩ : ∃ m, xs = [m] := List.length_eq_one_iff.1 hl
      obtain ⟨m', rfl⟩ : ∃ m, ys = [m] := List.length_eq_one_iff.1 hl'
      obtain ⟨a, rfl⟩ := hx m (by simp)
      obtain ⟨a', rfl⟩ := hy m' (by simp)
      refine ⟨mkEq bs fs a a', ?_, ?_⟩
      · unfold flatEq
        rw [hu]
        rfl
      · rw [mkEq_T hb hf, beq_iff_eq]
        constructor
        · intro h i hi
          obtain rfl : i = 0 := by omega
          exact h
        · intro h; exact h 0 (by omega)
    · rename_i fields hu
      split at h
      · cases h
      · rename_i hst
        obtain ⟨_, e, h1, h2⟩ := eqFields_two (bytesT_two hb hf d) hx hy fields.toList 0 n h (by omega) (by omega)
        refine ⟨e, ?_, h2.trans ⟨fun p i hi => p i (Nat.zero_le _) hi, fun p i _ hi => p i hi⟩⟩
        unfold flatEq
        rw [hu]
        simp only
        rw [if_neg hst, h1]
    · rename_i len el hu
      split at h
      · rename_i s k hs hk
        split at h
        · rename_i hc
          subst hc
          cases h
          obtain ⟨e, h1, h2⟩ := eqElems_two (bytesT_two hb hf d el s hk) hx hy len 0 (by rw [Nat.zero_add]; omega) (by rw [Nat.zero_add]; omega)
          refine ⟨e, ?_, h2.trans ⟨fun p i hi => p i (by omega) (by rw [Nat.zero_add]; exact hi), fun p i _ hi => p i (by rw [Nat.zero_add] at hi; exact hi)⟩⟩
          unfold flatEq
          rw [hu]
          simp only
          rw [hs]
          exact h1
        · cases h
      · cases h
    · cases h
theorem seenE_true {bs : Bds} {fs : Facts} {ρ : Val} (hb : bs.hold ρ) (hf : fs.hold ρ) {q : E} : ∀ {l : List E}, seenE bs fs q l = some true → ∃ s ∈ l, q.I ρ = s.I ρ
  | [], h => by simp [seenE] at h
  | s :: r, h => by
    have hq := mkEq_T hb hf q s
    unfold seenE at h
    split at h
    · rename_i he
      rw [he] at hq
      exact ⟨s, by simp, by simpa [E.T] using hq.symm⟩
    · obtain ⟨s', h1, h2⟩ := seenE_true hb hf h
      exact ⟨s', by simp [h1], h2⟩
    · cases h
theorem seenE_false {bs : Bds} {fs : Facts} {ρ : Val} (hb : bs.hold ρ) (hf : fs.hold ρ) {q : E} : ∀ {l : List E}, seenE bs fs q l = some false → ∀ s ∈ l, q.I ρ ≠ s.I ρ
  | [], _, s, hs => absurd hs (by simp)
  | s :: r, h, s', hs' => by
    have hq := mkEq_T hb hf q s
    unfold seenE at h
    split at h
    · cases h
    · rename_i he
      rw [he] at hq
      rcases List.mem_cons.1 hs' with rfl | hs'
      · simpa [E.T] using hq.symm
      · exact seenE_false hb hf h s' hs'
    · cases h
theorem inSpan_spec {bs : Bds} {fs : Facts} {ρ : Val} (hb : bs.hold ρ) (hf : fs.hold ρ) {q : E} {o n : Nat} {b : Bool} (h : inSpan bs fs q o n = some b) : (b = true ↔ (o : Int) ≤ q.I ρ ∧ q.I ρ < (o + n : Nat)) := by
  have h1 := mkLt_T hb hf q (.lit o)
  have h2 := mkLt_T hb hf q (.lit (o + n : Nat))
  unfold inSpan at h
  split at h
  · rename_i e1
    rw [e1] at h1
    simp only [E.T, E.I] at h1
    have h1 := of_decide_eq_true h1.symm
    cases h
    simp only [Bool.false_eq_true, false_iff]; omega
  · rename_i e1 e2
    rw [e1] at h1; rw [e2] at h2
    simp only [E.T, E.I] at h1 h2
    have h2 := of_decide_eq_false h2.symm
    cases h
    simp only [Bool.false_eq_true, false_iff]; omega
  · rename_i e1 e2
    rw [e1] at h1; rw [e2] at h2
    simp only [E.T, E.I] at h1 h2
    have h1 := of_decide_eq_false h1.symm
    have h2 := of_decide_eq_true h2.symm
    cases h
    simp only [true_iff]; omega
  · cases h
theorem rowEqZ_T {bs : Bds} {fs : Facts} {ρ : Val} (hb : bs.hold ρ) (hf : fs.hold ρ) {y : E} {o n : Nat} {x : E} {seen : List E} {e : E} (h : rowEqZ bs fs y o n x seen = some e) :
    (e.T ρ = true ↔ ∀ m, o ≤ m → m < o + n → (∀ s ∈ seen, (s.I ρ).toNat ≠ m) → x.A ρ m = y.A ρ m) := by
  have hq := mkEq_T hb hf (mkRd x (.lit o)) (mkRd y (.lit o))
  unfold rowEqZ at h
  split at h
  · rename_i he
    cases h
    rw [he, mkRd_I, mkRd_I] at hq
    simp only [E.T, E.I, Int.toNat_natCast] at hq
    simp only [E.T, Bool.false_eq_true, false_iff]
    intro p
    have := p o (Nat.le_refl _) (by omega) (fun s hs => absurd hs (by simp))
    rw [this] at hq
    simp at hq
  · cases h
theorem seen_cons {ρ : Val} {q : E} {seen : List E} (hq : 0 ≤ q.I ρ) (hs : ∀ s ∈ seen, 0 ≤ s.I ρ) : ∀ s ∈ q :: seen, 0 ≤ s.I ρ := fun s h => by
  rcases List.mem_cons.1 h with rfl | h
  · exact hq
  · exact hs s h
theorem rowEq_T {bs : Bds} {fs : Facts} {ρ : Val} (hb : bs.hold ρ) (hf : fs.hold ρ) {y : E} {o n : Nat} : ∀ (x : E) (seen : List E) (e : E), rowEq bs fs y o n x seen = some e → (∀ s ∈ seen, 0 ≤ s.I ρ) →
    (e.T ρ = true ↔ ∀ m, o ≤ m → m < o + n → (∀ s ∈ seen, (s.I ρ).toNat ≠ m) → x.A ρ m = y.A ρ m) := by
  intro x
  induction x with
  | upd x q v ih _ _ =>
    intro seen e h hs
    unfold rowEq at h
    split at h
    · rename_i hbq
      cases h
      rw [E.eq_of hbq]
      simp [E.T]
    · split at h
      · -- covered
        rename_i hz hsn
        obtain ⟨s, hs1, hs2⟩ := seenE_true hb hf hsn
        rw [ih seen e h hs]
        have key : ∀ m, (∀ s ∈ seen, (s.I ρ).toNat ≠ m) → (E.upd x q v).A ρ m = x.A ρ m := fun m hm => by
          simp only [E.A]
          rw [if_neg]
          intro hc
          exact hm s hs1 (by rw [← hs2]; exact hc.symm)
        exact ⟨fun p m h1 h2 h3 => by rw [key m h3]; exact p m h1 h2 h3, fun p m h1 h2 h3 => by rw [← key m h3]; exact p m h1 h2 h3⟩
      · -- beside the span
        rename_i hz _ hsp
        have hq0 := geZero_spec hb hf hz
        have hin := inSpan_spec hb hf hsp
        simp only [Bool.false_eq_true, false_iff] at hin
        rw [ih (q :: seen) e h (seen_cons hq0 hs)]
        have key : ∀ m, o ≤ m → m < o + n → (E.upd x q v).A ρ m = x.A ρ m := fun m h1 h2 => by
          simp only [E.A]
          rw [if_neg]
          intro hc
          apply hin
          omega
        constructor
        · intro p m h1 h2 h3
          rw [key m h1 h2]
          refine p m h1 h2 fun s h => ?_
          rcases List.mem_cons.1 h with rfl | h
          · intro hc; apply hin; omega
          · exact h3 s h
        · intro p m h1 h2 h3
          rw [← key m h1 h2]
          exact p m h1 h2 fun s h => h3 s (List.mem_cons_of_mem _ h)
      · -- in the span
        rename_i hz hsn hsp
        have hq0 := geZero_spec hb hf hz
        have hin := (inSpan_spec hb hf hsp).1 rfl
        have hne := seenE_false hb hf hsn
        simp only [Option.map_eq_some_iff] at h
        obtain ⟨r, h, rfl⟩ := h
        rw [mkAnd_T, Bool.and_eq_true, ih (q :: seen) r h (seen_cons hq0 hs), mkEq_T hb hf, mkRd_I, beq_iff_eq]
        constructor
        · rintro ⟨p1, p2⟩ m h1 h2 h3
          simp only [E.A]
          split
          · rename_i hc; rw [hc]; exact p2
          · rename_i hc
            refine p1 m h1 h2 fun s h => ?_
            rcases List.mem_cons.1 h with rfl | h
            · exact fun e => hc e.symm
            · exact h3 s h
        · intro p
          refine ⟨fun m h1 h2 h3 => ?_, ?_⟩
          · have := p m h1 h2 fun s h => h3 s (List.mem_cons_of_mem _ h)
            simp only [E.A] at this
            rwa [if_neg (fun e => h3 q (by simp) e.symm)] at this
          · have := p (q.I ρ).toNat (by omega) (by omega) fun s h hc => hne s h (by have := hs s h; omega)
            simpa only [E.A, if_true] using this
      · cases h
  | _ =>
    intro seen e h _
    unfold rowEq at h
    split at h
    · rename_i hbq
      cases h
      rw [E.eq_of hbq]
      simp [E.T]
    · exact rowEqZ_T hb hf h
/-- Equality of two values. -/
theorem eqM_sound {P : Program} {bs : Bds} {fs : Facts} {Γ : Ctx} {t : Nat} {x y : MV} {e : E} {vx vy : Value} (h : eqM P bs fs t x y = some e) (hx : x.rel Γ vx) (hy : y.rel Γ vy)
    (hb : bs.hold Γ.ρ) (hf : fs.hold Γ.ρ) (ox oy : Operand) (w : World) :
    (eqGuard .eql t ox oy vx vy).run P w = .ok () w ∧ (eqGuard .neq t ox oy vx vy).run P w = .ok () w ∧ (binOp .eql t vx vy).run P w = .ok (.bool (e.T Γ.ρ)) w ∧ (binOp .neq t vx vy).run P w = .ok (.bool (!(e.T Γ.ρ))) w := by
  unfold eqM at h
  split at h
  · split at h
    · rename_i hk
      have hk := kbeq_eq hk
      subst hk
      cases h
      rw [MV.rel_c hx, MV.rel_c hy]
      refine ⟨run_eqGuard_mc .., run_eqGuard_mc .., ?_, ?_⟩ <;> simp [MC.den, binOp, Op.intCmp, mkEq_T hb hf, bne]
    · cases h
  · cases h
    rw [MV.rel_c hx, MV.rel_c hy]
    refine ⟨run_eqGuard_mc .., run_eqGuard_mc .., ?_, ?_⟩ <;> simp [MC.den, binOp, Op.stringOp, E.T]
  · cases h
    rw [MV.rel_c hx, MV.rel_c hy]
    refine ⟨run_eqGuard_mc .., run_eqGuard_mc .., ?_, ?_⟩ <;> simp [MC.den, binOp, Op.stringOp, settle_T hf, E.T]
  · cases h
    rw [MV.rel_c hx, MV.rel_c hy]
    refine ⟨run_eqGuard_mc .., run_eqGuard_mc .., ?_, ?_⟩ <;> simp [MC.den, binOp, Op.stringOp, settle_T hf, E.T, Bool.beq_comm]
  · rename_i a b
    split at h
    · rename_i hu
      cases h
      rw [MV.rel_c hx, MV.rel_c hy]
      have hq := run_equalIn_bool' (P := P) w 9999 t (a.T Γ.ρ) (b.T Γ.ρ) hu
      refine ⟨run_eqGuard_mc .., run_eqGuard_mc .., ?_, ?_⟩ <;> simp [MC.den, binOp, Op.equal, Op.maxDepth, hq, mkIteT_T, mkNot_T, bool_ite]
    · cases h
  · split at h
    · rename_i el hu
      cases h
      rw [MV.rel_c hx, MV.rel_c hy]
      exact ⟨run_eqGuard_mc .., run_eqGuard_mc .., run_eql_ptr t el _ _ hu (by simp) w⟩
    · cases h
  · split at h
    · rename_i el hu
      cases h
      rw [MV.rel_c hx, MV.rel_c hy]
      exact ⟨run_eqGuard_mc .., run_eqGuard_mc .., run_eql_ptr t el _ _ hu (by simp) w⟩
    · cases h
  · split at h
    · rename_i el hu
      cases h
      rw [MV.rel_c hx, MV.rel_c hy]
      exact ⟨run_eqGuard_mc .., run_eqGuard_mc .., run_eql_ptr t el _ _ hu (by simp) w⟩
    · cases h
  · rename_i xs ys
    split at h
    · rename_i hg ha
      have hx := MV.rel_agg hx
      have hy := MV.rel_agg hy
      subst hx hy
      obtain ⟨hsh, hq⟩ := flatEq_sound hb hf 20 9980 t xs ys e h
      refine ⟨run_eqGuard_agg w .eql t ox oy _ _ hg, run_eqGuard_agg w .neq t ox oy _ _ hg, ?_⟩
      have he := hq _ _ ⟨fun _ => rfl, fun h => by rw [ha] at h; cases h⟩ ⟨fun _ => rfl, fun h => by rw [ha] at h; cases h⟩ w
      rw [run_eql_struct, run_neq_struct, he]
      exact ⟨rfl, rfl⟩
    · cases h
  · rename_i X o n Y p n'
    split at h
    · rename_i k hg ha hk
      split at h
      · rename_i j hc
        simp only [Bool.and_eq_true] at hc
        have c2 := E.eq_of hc.1
        have c3 := Nat.eq_of_beq_eq_true hc.2.1; have c4 := Nat.eq_of_beq_eq_true hc.2.2
        subst c2 c3 c4
        let xs : List MC := (List.range n).map fun i => .int .u8 (.lit (X.A Γ.ρ (j + i)))
        let ys : List MC := (List.range n).map fun i => .int .u8 (.lit (Y.A Γ.ρ (j + i)))
        have hxs : densOf Γ xs = rowDen Γ X (.lit (.ofNat j)) n 0 := by simp [xs, densOf, rowDen, MC.den, E.I]
        have hys : densOf Γ ys = rowDen Γ Y (.lit (.ofNat j)) n 0 := by simp [ys, densOf, rowDen, MC.den, E.I]
        have hx : vx = .agg (densOf Γ xs).toArray := by rw [hxs]; exact hx
        have hy : vy = .agg (densOf Γ ys).toArray := by rw [hys]; exact hy
        subst hx hy
        obtain ⟨e', h1, h2⟩ := bytesT_two hb hf 20 t n hk xs ys (by simp [xs]) (by simp [ys]) (fun m hm => by
          obtain ⟨i, _, rfl⟩ := List.mem_map.1 hm
          exact ⟨_, rfl⟩) (fun m hm => by
          obtain ⟨i, _, rfl⟩ := List.mem_map.1 hm
          exact ⟨_, rfl⟩)
        have h3 := rowEq_T hb hf X [] e h (fun s hs => absurd hs (by simp))
        have h4 : e'.T Γ.ρ = e.T Γ.ρ := by
          rw [Bool.eq_iff_iff, h2, h3]
          have hax : ∀ i, i < n → atV Γ.ρ xs i = X.A Γ.ρ (j + i) := fun i hi => by simp [xs, atV, hi, E.I]
          have hay : ∀ i, i < n → atV Γ.ρ ys i = Y.A Γ.ρ (j + i) := fun i hi => by simp [ys, atV, hi, E.I]
          constructor
          · intro p m q1 q2 _
            have := p (m - j) (by omega)
            rwa [hax _ (by omega), hay _ (by omega), show j + (m - j) = m from by omega] at this
          · intro p i hi
            rw [hax i hi, hay i hi]
            exact p (j + i) (by omega) (by omega) (fun s hs => absurd hs (by simp))
        obtain ⟨hsh, hq⟩ := flatEq_sound hb hf 20 9980 t xs ys e' h1
        refine ⟨run_eqGuard_agg w .eql t ox oy _ _ hg, run_eqGuard_agg w .neq t ox oy _ _ hg, ?_⟩
        have he := hq _ _ ⟨fun _ => rfl, fun h => by rw [ha] at h; cases h⟩ ⟨fun _ => rfl, fun h => by rw [ha] at h; cases h⟩ w
        rw [run_eql_struct, run_neq_struct, he, h4]
        exact ⟨rfl, rfl⟩
      · cases h
    · cases h
  · cases h
end Sx
end Go.Proofs.Ytigblagodlfedaa
