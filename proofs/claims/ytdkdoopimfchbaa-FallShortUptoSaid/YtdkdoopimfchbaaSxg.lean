/- The symbolic run: equality, operators, conversions. -/
import Derived.Test.YtdkdoopimfchbaaSxf
import Derived.ChangeKeysEq
namespace Go.Proofs.Ytdkdoopimfchbaa
namespace Sx
open Go.RowKit

/-- A value of a type, by its cells. -/
def isV (P : Program) (Γ : Ctx) (t : Nat) (xs : List MC) (v : Value) : Prop :=
  (aggB P t = some true → v = .agg (densOf Γ xs).toArray) ∧ (aggB P t = some false → ∀ m, xs = [m] → v = m.den Γ)
theorem flatEq_shape {P : Program} {bs : Bds} {fs : Facts} {d t : Nat} {xs ys : List MC} {e : E} (h : flatEq P bs fs d t xs ys = some e) :
    aggB P t = some true ∨ (aggB P t = some false ∧ (∃ m, xs = [m]) ∧ (∃ m, ys = [m])) := by
  cases d with
  | zero => simp [flatEq] at h
  | succ d =>
    simp only [flatEq] at h
    unfold aggB
    split at h
    · rename_i hu
      rw [hu]
      split at h
      · exact .inr ⟨rfl, ⟨_, rfl⟩, ⟨_, rfl⟩⟩
      · cases h
    · rename_i hu
      rw [hu]
      split at h
      · exact .inr ⟨rfl, ⟨_, rfl⟩, ⟨_, rfl⟩⟩
      · cases h
    · rename_i hu
      rw [hu]
      split at h
      · exact .inr ⟨rfl, ⟨_, rfl⟩, ⟨_, rfl⟩⟩
      · exact .inr ⟨rfl, ⟨_, rfl⟩, ⟨_, rfl⟩⟩
      · cases h
    · rename_i hu; rw [hu]; exact .inl rfl
    · rename_i hu; rw [hu]; exact .inl rfl
    · cases h
theorem take_one {xs : List MC} {off s : Nat} {m : MC} (h : (xs.drop off).take s = [m]) : xs[off]? = some m := by
  have h1 : ((xs.drop off).take s)[0]? = some m := by rw [h]; rfl
  rw [List.getElem?_take] at h1
  split at h1
  · rw [List.getElem?_drop] at h1; simpa using h1
  · cases h1
theorem take_self {xs : List MC} {off s : Nat} (h : off + s ≤ xs.length) : ((xs.drop off).take s).length = s := by simp; omega
/-- A part, as equality takes it. -/
theorem part_isV {P : Program} {Γ : Ctx} {t off s : Nat} {xs : List MC} (hs : szB P t = some s) (hle : off + s ≤ xs.length)
    (ha : aggB P t = some true ∨ (aggB P t = some false ∧ ∃ m, (xs.drop off).take s = [m])) (w : World) :
    ∃ v, (part t (densOf Γ xs).toArray off).run P w = .ok v w ∧ isV P Γ t ((xs.drop off).take s) v := by
  rcases ha with ha | ⟨ha, m, hm⟩
  · have hp : partM P t xs off = some (.agg ((xs.drop off).take s)) := by unfold partM; simp only [ha, hs]; rw [if_pos hle]
    obtain ⟨v, hv, hr⟩ := partM_run hp Γ [] w
    rw [List.append_nil] at hv
    exact ⟨v, hv, fun _ => MV.rel_agg hr, fun h => by rw [ha] at h; cases h⟩
  · have hp : partM P t xs off = some (.c m) := by unfold partM; simp only [ha, take_one hm]
    obtain ⟨v, hv, hr⟩ := partM_run hp Γ [] w
    rw [List.append_nil] at hv
    refine ⟨v, hv, ⟨fun h => ?_, fun _ n hn => ?_⟩⟩
    · rw [ha] at h; cases h
    · rw [hm] at hn
      cases hn
      exact MV.rel_c hr
/-- What equality by parts is held against. -/
def EqAtD (P : Program) (Γ : Ctx) (rec : Nat → List MC → List MC → Option E) (D : Nat) : Prop :=
  ∀ t xs ys e, rec t xs ys = some e → (aggB P t = some true ∨ (aggB P t = some false ∧ (∃ m, xs = [m]) ∧ (∃ m, ys = [m]))) ∧
    ∀ vx vy, isV P Γ t xs vx → isV P Γ t ys vy → ∀ w, (Op.equalIn D t vx vy).run P w = .ok (e.T Γ.ρ) w
theorem shape_l {P : Program} {t : Nat} {xs ys : List MC} (h : aggB P t = some true ∨ (aggB P t = some false ∧ (∃ m, xs = [m]) ∧ (∃ m, ys = [m]))) : aggB P t = some true ∨ (aggB P t = some false ∧ ∃ m, xs = [m]) := h.imp id fun h => ⟨h.1, h.2.1⟩
theorem shape_r {P : Program} {t : Nat} {xs ys : List MC} (h : aggB P t = some true ∨ (aggB P t = some false ∧ (∃ m, xs = [m]) ∧ (∃ m, ys = [m]))) : aggB P t = some true ∨ (aggB P t = some false ∧ ∃ m, ys = [m]) := h.imp id fun h => ⟨h.1, h.2.2⟩
theorem eqFields_sound {P : Program} {Γ : Ctx} {rec : Nat → List MC → List MC → Option E} {D : Nat} (hr : EqAtD P Γ rec D) {xs ys : List MC} : ∀ {fs : List Field} {e : E}, eqFields P rec xs ys fs = some e →
    ∀ w, (Op.eqFields D (densOf Γ xs).toArray (densOf Γ ys).toArray fs).run P w = .ok (e.T Γ.ρ) w
  | [], e, h, w => by
    simp only [eqFields, Option.some.injEq] at h
    subst h
    simp [Op.eqFields, E.T]
  | f :: fs, e, h, w => by
    simp only [eqFields] at h
    split at h
    · cases h
    · rename_i hn
      split at h
      · rename_i s hs
        split at h
        · rename_i hle
          split at h
          · rename_i a b ha hb
            cases h
            obtain ⟨hsh, hq⟩ := hr _ _ _ _ ha
            obtain ⟨vx, p1, i1⟩ := part_isV (Γ := Γ) hs hle.1 (shape_l hsh) w
            obtain ⟨vy, p2, i2⟩ := part_isV (Γ := Γ) hs hle.2 (shape_r hsh) w
            have ih := eqFields_sound hr hb w
            simp only [Op.eqFields, ne_eq, hn, not_false_eq_true, if_true, Sem.run_bind, p1, p2, hq vx vy i1 i2 w, Result.andThen_ok]
            rw [mkAnd_T]
            cases a.T Γ.ρ
            · simp
            · simpa using ih
          · cases h
        · cases h
      · cases h
theorem eqElems_sound {P : Program} {Γ : Ctx} {rec : Nat → List MC → List MC → Option E} {D el s : Nat} (hr : EqAtD P Γ rec D) (hs : szB P el = some s) {xs ys : List MC} : ∀ {n i : Nat} {e : E}, eqElems (rec el) s xs ys n i = some e →
    ∀ w, (Op.eqItems D el s (densOf Γ xs).toArray (densOf Γ ys).toArray (List.range' i n)).run P w = .ok (e.T Γ.ρ) w
  | 0, i, e, h, w => by
    simp only [eqElems, Option.some.injEq] at h
    subst h
    simp [Op.eqItems, E.T]
  | n + 1, i, e, h, w => by
    simp only [eqElems] at h
    split at h
    · rename_i hle
      split at h
      · rename_i a b ha hb
        cases h
        obtain ⟨hsh, hq⟩ := hr _ _ _ _ ha
        obtain ⟨vx, p1, i1⟩ := part_isV (Γ := Γ) hs hle.1 (shape_l hsh) w
        obtain ⟨vy, p2, i2⟩ := part_isV (Γ := Γ) hs hle.2 (shape_r hsh) w
        have ih := eqElems_sound hr hs hb w
        rw [List.range'_succ]
        simp only [Op.eqItems, Sem.run_bind, p1, p2, hq vx vy i1 i2 w, Result.andThen_ok]
        rw [mkAnd_T]
        cases a.T Γ.ρ
        · simp
        · simpa using ih
      · cases h
    · cases h
theorem fieldsOf_eq {P : Program} {t : Nat} {fields : Array Field} (h : P.underlying t = some (.struct fields)) : P.fieldsOf t = fields := by unfold Program.fieldsOf; rw [h]
theorem bool_ite (a b : Bool) : (if a = true then b else !b) = (a == b) := by cases a <;> cases b <;> rfl
theorem flatEq_sound {P : Program} {bs : Bds} {fs : Facts} {Γ : Ctx} (hb : bs.hold Γ.ρ) (hf : fs.hold Γ.ρ) : ∀ (d k : Nat), EqAtD P Γ (flatEq P bs fs d) (d + k)
  | 0, k => fun t xs ys e h => by simp [flatEq] at h
  | d + 1, k => fun t xs ys e h => by
    refine ⟨flatEq_shape h, fun vx vy hx hy w => ?_⟩
    have hsh := flatEq_shape h
    rw [show d + 1 + k = (d + k) + 1 from by omega]
    simp only [flatEq] at h
    split at h
    · rename_i k0 hu
      have ha : aggB P t = some false := by unfold aggB; rw [hu]
      split at h
      · split at h
        · rename_i hk
          have hk := kbeq_eq hk
          subst hk
          cases h
          rw [hx.2 ha _ rfl, hy.2 ha _ rfl]
          simp only [MC.den]
          rw [run_equalIn_int w _ t _ k0 _ _ hu, mkEq_T hb hf]
        · cases h
      · cases h
    · rename_i hu
      have ha : aggB P t = some false := by unfold aggB; rw [hu]
      split at h
      · cases h
        rw [hx.2 ha _ rfl, hy.2 ha _ rfl]
        simp only [MC.den]
        rw [run_equalIn_bool' w _ t _ _ hu, mkIteT_T, mkNot_T, bool_ite]
      · cases h
    · rename_i hu
      have ha : aggB P t = some false := by unfold aggB; rw [hu]
      split at h
      · cases h
        rw [hx.2 ha _ rfl, hy.2 ha _ rfl]
        simp only [MC.den]
        rw [run_equalIn_string w _ t _ _ hu]
        simp [E.T]
      · cases h
        rw [hx.2 ha _ rfl, hy.2 ha _ rfl]
        simp only [MC.den]
        rw [run_equalIn_string w _ t _ _ hu, settle_T hf]
        simp [E.T]
      · cases h
    · rename_i fields hu
      have ha : aggB P t = some true := by unfold aggB; rw [hu]
      split at h
      · cases h
      · rename_i hst
        rw [hx.1 ha, hy.1 ha, run_equalIn_struct w _ t _ _ (by rw [fieldsOf_eq hu]; exact hu) (by simpa using hst), fieldsOf_eq hu]
        exact eqFields_sound (flatEq_sound hb hf d k) h w
    · rename_i len el hu
      have ha : aggB P t = some true := by unfold aggB; rw [hu]
      split at h
      · rename_i s hs
        obtain ⟨i, hi, his⟩ := szB_info hs
        rw [hx.1 ha, hy.1 ha, run_equalIn_array w _ _ _ hu hi]
        have hc : P.cellsOf el = s := by simp [Program.cellsOf, hi, his]
        rw [hc, List.range_eq_range']
        exact eqElems_sound (flatEq_sound hb hf d k) hs h w
      · cases h
    · cases h
theorem run_eqGuard_mc {P : Program} (Γ : Ctx) (op : BinOp) (t : Nat) (x y : Operand) (m n : MC) (w : World) : (eqGuard op t x y (m.den Γ) (n.den Γ)).run P w = .ok () w := by
  unfold eqGuard
  cases op <;> cases m <;> simp [MC.den]
theorem run_equalIn_ptr {P : Program} (d t el : Nat) (a b : Option Addr) (hu : P.underlying t = some (.pointer el)) (h : a = none ∨ b = none) (w : World) :
    (Op.equalIn (d + 1) t (.pointer a) (.pointer b)).run P w = .ok (a.isNone && b.isNone) w := by
  rcases h with rfl | rfl
  · simp [Op.equalIn, run_underlying hu]
  · cases a <;> simp [Op.equalIn, run_underlying hu]
theorem run_eql_ptr {P : Program} (t el : Nat) (a b : Option Addr) (hu : P.underlying t = some (.pointer el)) (h : a = none ∨ b = none) (w : World) :
    (binOp .eql t (.pointer a) (.pointer b)).run P w = .ok (.bool (a.isNone && b.isNone)) w ∧ (binOp .neq t (.pointer a) (.pointer b)).run P w = .ok (.bool (!(a.isNone && b.isNone))) w := by
  have hq := run_equalIn_ptr 9999 t el a b hu h w
  have e1 : binOp .eql t (.pointer a) (.pointer b) = (do pure (.bool (← Op.equal t (.pointer a) (.pointer b)))) := rfl
  have e2 : binOp .neq t (.pointer a) (.pointer b) = (do pure (.bool (!(← Op.equal t (.pointer a) (.pointer b))))) := rfl
  have e3 : Op.equal t (.pointer a) (.pointer b) = Op.equalIn (9999 + 1) t (.pointer a) (.pointer b) := rfl
  rw [e1, e2, e3]
  simp only [Sem.run_bind, hq, Result.andThen_ok, Sem.run_pure, and_self]
/-- Equality of two values. -/
theorem eqM_sound {P : Program} {bs : Bds} {fs : Facts} {Γ : Ctx} {t : Nat} {x y : MV} {e : E} {vx vy : Value} (h : eqM P bs fs t x y = some e) (hx : x.rel Γ vx) (hy : y.rel Γ vy)
    (hb : bs.hold Γ.ρ) (hf : fs.hold Γ.ρ) (ox oy : Operand) (w : World) :
    (eqGuard .eql t ox oy vx vy).run P w = .ok () w ∧ (eqGuard .neq t ox oy vx vy).run P w = .ok () w ∧ (binOp .eql t vx vy).run P w = .ok (.bool (e.T Γ.ρ)) w ∧ (binOp .neq t vx vy).run P w = .ok (.bool (!(e.T Γ.ρ))) w := by
  unfold eqM at h
  split at h
  · split at h
    · rename_i hk
      have hk := kbeq_eq hk
      subst hk
      cases h
      rw [MV.rel_c hx, MV.rel_c hy]
      refine ⟨run_eqGuard_mc .., run_eqGuard_mc .., ?_, ?_⟩ <;> simp [MC.den, binOp, Op.intCmp, mkEq_T hb hf, bne]
    · cases h
  · cases h
    rw [MV.rel_c hx, MV.rel_c hy]
    refine ⟨run_eqGuard_mc .., run_eqGuard_mc .., ?_, ?_⟩ <;> simp [MC.den, binOp, Op.stringOp, E.T]
  · cases h
    rw [MV.rel_c hx, MV.rel_c hy]
    refine ⟨run_eqGuard_mc .., run_eqGuard_mc .., ?_, ?_⟩ <;> simp [MC.den, binOp, Op.stringOp, settle_T hf, E.T]
  · cases h
    rw [MV.rel_c hx, MV.rel_c hy]
    refine ⟨run_eqGuard_mc .., run_eqGuard_mc .., ?_, ?_⟩ <;> simp [MC.den, binOp, Op.stringOp, settle_T hf, E.T, Bool.beq_comm]
  · rename_i a b
    split at h
    · rename_i hu
      cases h
      rw [MV.rel_c hx, MV.rel_c hy]
      have hq := run_equalIn_bool' (P := P) w 9999 t (a.T Γ.ρ) (b.T Γ.ρ) hu
      refine ⟨run_eqGuard_mc .., run_eqGuard_mc .., ?_, ?_⟩ <;> simp [MC.den, binOp, Op.equal, Op.maxDepth, hq, mkIteT_T, mkNot_T, bool_ite]
    · cases h
  · split at h
    · rename_i el hu
      cases h
      rw [MV.rel_c hx, MV.rel_c hy]
      exact ⟨run_eqGuard_mc .., run_eqGuard_mc .., run_eql_ptr t el _ _ hu (by simp) w⟩
    · cases h
  · split at h
    · rename_i el hu
      cases h
      rw [MV.rel_c hx, MV.rel_c hy]
      exact ⟨run_eqGuard_mc .., run_eqGuard_mc .., run_eql_ptr t el _ _ hu (by simp) w⟩
    · cases h
  · split at h
    · rename_i el hu
      cases h
      rw [MV.rel_c hx, MV.rel_c hy]
      exact ⟨run_eqGuard_mc .., run_eqGuard_mc .., run_eql_ptr t el _ _ hu (by simp) w⟩
    · cases h
  · rename_i xs ys
    split at h
    · rename_i hg ha
      have hx := MV.rel_agg hx
      have hy := MV.rel_agg hy
      subst hx hy
      obtain ⟨hsh, hq⟩ := flatEq_sound hb hf 20 9980 t xs ys e h
      refine ⟨run_eqGuard_agg w .eql t ox oy _ _ hg, run_eqGuard_agg w .neq t ox oy _ _ hg, ?_⟩
      have he := hq _ _ ⟨fun _ => rfl, fun h => by rw [ha] at h; cases h⟩ ⟨fun _ => rfl, fun h => by rw [ha] at h; cases h⟩ w
      rw [run_eql_struct, run_neq_struct, he]
      exact ⟨rfl, rfl⟩
    · cases h
  · cases h
end Sx
end Go.Proofs.Ytdkdoopimfchbaa
