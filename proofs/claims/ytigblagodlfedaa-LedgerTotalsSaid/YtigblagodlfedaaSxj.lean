/- The symbolic run: one operation. -/
import Derived.Test.YtigblagodlfedaaSxi
namespace Go.Proofs.Ytigblagodlfedaa
namespace Sx
open Go.RowKit

/-- An operation comes to what it is told to come to. -/
def RanN (P : Program) (Γ : Ctx) (L : Nat → Prop) (S : St) (r : Res) (w : World) (x : Sem Next) : Prop :=
  ∃ Γ' w' nx v, x.run P w = .ok nx w' ∧ (nx = .value v ∨ (nx = .skip ∧ v = undef)) ∧ r.mv.rel Γ' v ∧ Step Γ Γ' L S r w w'
theorem RanV.toN {P : Program} {Γ : Ctx} {L : Nat → Prop} {S : St} {r : Res} {w : World} {x : Sem Value} (h : RanV P Γ L S r w x) : RanN P Γ L S r w (x >>= fun v => Pure.pure (Next.value v)) := by
  obtain ⟨Γ', w', v, h1, h2, h3⟩ := h
  exact ⟨Γ', w', .value v, v, by simp only [Sem.run_bind, h1, Result.andThen_ok, Sem.run_pure], .inl rfl, h2, h3⟩
theorem RanN.move {P : Program} {Γ : Ctx} {L : Nat → Prop} {S : St} {m : MV} {w : World} {v : Value} (hr : m.rel Γ v) (ho : m.on L) : RanN P Γ L S { mv := m } w (pure (.value v)) :=
  ⟨Γ, w, .value v, v, rfl, .inl rfl, hr, Step.pure ho⟩
theorem condM_inl {bs : Bds} {fs : Facts} {x : MV} {b : Bool} {Γ : Ctx} {v : Value} (h : condM bs fs x = some (.inl b)) (hx : x.rel Γ v) (hb : bs.hold Γ.ρ) (hf : fs.hold Γ.ρ) : v = .bool b := by
  unfold condM at h
  split at h
  · rename_i e
    have ht := simpT_T hb hf e
    split at h
    · rename_i b' hs
      simp only [Option.some.injEq, Sum.inl.injEq] at h
      subst h
      rw [hs] at ht
      rw [MV.rel_c hx]
      simp only [MC.den, ← ht, E.T]
    · cases h
  · cases h
theorem condM_inr {bs : Bds} {fs : Facts} {x : MV} {e : E} {Γ : Ctx} {v : Value} (h : condM bs fs x = some (.inr e)) (hx : x.rel Γ v) (hb : bs.hold Γ.ρ) (hf : fs.hold Γ.ρ) : v = .bool (e.T Γ.ρ) := by
  unfold condM at h
  split at h
  · rename_i e'
    have ht := simpT_T hb hf e'
    split at h
    · cases h
    · simp only [Option.some.injEq, Sum.inr.injEq] at h
      subst h
      rw [MV.rel_c hx, ht]
      rfl
  · cases h
theorem asBool_run {P : Program} (b : Bool) (w : World) : (asBool (.bool b)).run P w = .ok b w := rfl
theorem ptr_den (Γ : Ctx) (b : Nat) (o : E) : MC.den Γ (.ptr b o) = .pointer (some ⟨Γ.id b, (o.I Γ.ρ).toNat, none⟩) := rfl
/-- One operation, but for calls of Go functions. -/
theorem opM_sound {P : Program} {bs : Bds} {fs : Facts} {ev : Operand → MV} {f : Operand → Value} {S : St} {o : Oper} {r : Res} {Γ : Ctx} {L : Nat → Prop} {w : World}
    (h : opM P bs fs ev S o.op = .ok r) (he : ∀ x, (ev x).rel Γ (f x) ∧ (ev x).on L) (hS : S.rel Γ L w) (hL : ∀ j, L j → j < S.n) (hb : bs.hold Γ.ρ) (hf : fs.hold Γ.ρ) : RanN P Γ L S r w (execOp f o) := by
  unfold opM at h
  split at h <;> rename_i hop <;> unfold execOp <;> simp only [hop]
  · rename_i x
    cases h
    exact RanN.move (he x).1 (he x).2
  · rename_i x
    cases h
    exact RanN.move (he x).1 (he x).2
  · rename_i c x y
    split at h
    · rename_i hc
      cases h
      have hv := condM_inl hc (he c).1 hb hf
      exact ⟨Γ, w, .value (f x), f x, by simp only [hv, Sem.run_bind, asBool_run, Result.andThen_ok, if_true, Sem.run_pure], .inl rfl, (he x).1, Step.pure (he x).2⟩
    · rename_i hc
      cases h
      have hv := condM_inl hc (he c).1 hb hf
      exact ⟨Γ, w, .value (f y), f y, by simp only [hv, Sem.run_bind, asBool_run, Result.andThen_ok, Bool.false_eq_true, if_false, Sem.run_pure], .inl rfl, (he y).1, Step.pure (he y).2⟩
    · cases h
    · cases h
  · rename_i t
    unfold allocM at h
    split at h
    · rename_i n tl hbig
      obtain ⟨i, z, hi, hiz, hzc, hon⟩ := bigM_info hbig
      cases h
      exact (newBig_sound (P := P) (v := z) (X := .bl false) (by rw [hzc Γ, zeros_map Γ.ρ n]) (hon L) hL (run_alloc w t i z hi hiz)).toN
    · cases hz : zeroM P t with
      | none => rw [hz] at h; simp [newVarM] at h
      | some l =>
        rw [hz] at h
        obtain ⟨i, z, hi, hiz, hzc⟩ := zeroM_info hz
        exact (newVarM_sound (P := P) (v := z) h (hzc Γ) (zeroM_on hz L) hL (run_alloc w t i z hi hiz)).toN
  · rename_i t x
    unfold boxX at h
    split at h
    · rename_i X n m hx
      cases h
      have hr := (he x).1
      rw [hx] at hr
      have hv : f x = .agg (rowDen Γ X (.lit (.ofNat 0)) n m).toArray := hr
      refine (newBig_sound (P := P) (v := f x) (X := X) ?_ (nils_on L m) hL (run_box w t (f x))).toN
      rw [hv, densOf_nils]
      simp only [Value.cells, rowDen, E.I]
      simp
    · cases hc : (ev x).cells with
      | none => rw [hc] at h; simp [newVarM] at h
      | some l =>
        rw [hc] at h
        exact (newVarM_sound (P := P) (v := f x) h (cells_rel hc (he x).1) (cells_on hc (he x).2) hL (run_box w t (f x))).toN
  · exact (buildX_sound h he).toN
  · exact (buildSliceX_sound h he hL).toN
  · rename_i t p
    exact (loadM_sound h (he p).1 hS hb hf).toN
  · rename_i t p v
    obtain ⟨w', h1, h2, h3⟩ := storeM_sound h (he p).1 (he v).1 (he v).2 hS hb hf
    exact ⟨Γ, w', .skip, undef, by simp only [Sem.run_bind, h1, Result.andThen_ok, Sem.run_pure], .inr ⟨rfl, rfl⟩, by rw [h2]; rfl, h3⟩
  · rename_i x
    split at h
    · rename_i b off hx
      cases h
      have hr := (he x).1
      have ho := (he x).2
      rw [hx] at hr ho
      rw [MV.rel_c hr, ptr_den]
      exact RanN.move rfl ho
    · cases h
  · rename_i op t x y q
    exact (binM_sound h (he x).1 (he y).1 hb hf x y).toN
  · rename_i op q x
    exact (unM_sound h (he x).1 hb hf).toN
  · rename_i s d x
    exact (convM_sound h (he x).1 hb hf).toN
  · rename_i g first caps
    split at h
    · rename_i hfirst
      split at h
      · rename_i l hl
        cases h
        obtain ⟨h1, h2⟩ := capsM_spec he hl
        have hfe : first = #[] := by
          apply Array.toList_inj.1
          simpa using hfirst
        subst hfe
        have hcs : caps.map f = (l.map fun p => Value.pointer (some ⟨Γ.id p.1, p.2, none⟩)).toArray := by
          apply Array.toList_inj.1
          rw [Array.toList_map, h1]
        refine ⟨Γ, w, .value _, _, rfl, .inl rfl, ?_, Step.pure h2⟩
        simp only [MV.rel, MV.den, MC.den, hcs]
        simp
      · cases h
    · cases h
  · rename_i t x lo hi mx
    exact (sliceX_sound h (he x).1 (he x).2 hS he hb hf).toN
  · rename_i s x fd
    exact (fieldAddrM_sound h (he x).1 (he x).2 hb hf).toN
  · rename_i t x fd
    exact (fieldM_sound h (he x).1 (he x).2).toN
  · rename_i t x i
    exact (indexAddrM_sound h (he x).1 (he x).2 (he i).1 hb hf).toN
  · rename_i t x i
    exact (indexX_sound h (he x).1 (he x).2 (he i).1 hb hf).toN
  · rename_i x i
    split at h
    · rename_i l hx
      have hr := (he x).1
      have ho := (he x).2
      rw [hx] at hr ho
      have hv : f x = .tuple (l.map (avDen Γ)).toArray := hr
      rw [hv]
      split at h
      · rename_i cs hl
        cases h
        refine ⟨Γ, w, .value (.agg (densOf Γ cs).toArray), _, ?_, .inl rfl, rfl, Step.pure (ho _ (List.mem_of_getElem? hl))⟩
        simp [Instr.extract, hl, avDen]
      · rename_i m hl
        cases h
        refine ⟨Γ, w, .value (m.den Γ), _, ?_, .inl rfl, rfl, Step.pure (ho _ (List.mem_of_getElem? hl) m (by simp))⟩
        simp [Instr.extract, hl, avDen]
      · cases h
    · cases h
  · rename_i args tys
    split at h
    · rename_i x t ha ht
      have ha : args = #[x] := Array.toList_inj.1 ha
      have ht : tys = #[t] := Array.toList_inj.1 ht
      subst ha ht
      obtain ⟨Γ', w', v, h1, h2, h3⟩ := lenM_sound (P := P) (ty := o.type) (L := L) (S := S) (w := w) h (he x).1 hb hf
      exact ⟨Γ', w', .value v, v, by simp [resolve, invoke, builtin, h1], .inl rfl, h2, h3⟩
    · cases h
  · rename_i args tys
    split at h
    · rename_i x y ha
      have ha : args = #[x, y] := Array.toList_inj.1 ha
      subst ha
      obtain ⟨Γ', w', v, h1, h2, h3⟩ := minM_sound (P := P) (ty := o.type) (ts := tys) (L := L) (S := S) (w := w) h (he x).1 (he y).1 hb hf
      exact ⟨Γ', w', .value v, v, by simp [resolve, invoke, builtin, h1], .inl rfl, h2, h3⟩
    · cases h
  · rename_i args tys
    split at h
    · rename_i s x t u ha ht
      have ha : args = #[s, x] := Array.toList_inj.1 ha
      have ht : tys = #[t, u] := Array.toList_inj.1 ht
      subst ha ht
      obtain ⟨Γ', w', v, h1, h2, h3⟩ := appendX_sound (P := P) (ty := o.type) (L := L) (S := S) (w := w) h (he s).1 (he s).2 (he x).1 hS hL hb hf
      exact ⟨Γ', w', .value v, v, by simp [resolve, invoke, builtin, h1], .inl rfl, h2, h3⟩
    · cases h
  · cases h
end Sx
end Go.Proofs.Ytigblagodlfedaa
