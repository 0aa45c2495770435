/- The symbolic run: each operation does what it is told to do. -/
import Derived.Test.YtigblagodlfedaaSxc
import Derived.Great.BuildSlice
namespace Go.Proofs.Ytigblagodlfedaa
namespace Sx
open Go.RowKit

/-- A computation of a value comes to what it is told to come to. -/
def RanV (P : Program) (Γ : Ctx) (L : Nat → Prop) (S : St) (r : Res) (w : World) (x : Sem Value) : Prop :=
  ∃ Γ' w' v, x.run P w = .ok v w' ∧ r.mv.rel Γ' v ∧ Step Γ Γ' L S r w w'
theorem RanV.pure {P : Program} {Γ : Ctx} {L : Nat → Prop} {S : St} {m : MV} {w : World} {x : Sem Value} {v : Value} (h : x.run P w = .ok v w) (hv : m.rel Γ v) (hm : m.on L) : RanV P Γ L S { mv := m } w x :=
  ⟨Γ, w, v, h, hv, Step.pure hm⟩
theorem R.v_ok {m : MV} {r : Res} (h : R.v m = .ok r) : r = { mv := m } := by simp only [R.v, R.ok.injEq] at h; exact h.symm
theorem R.ofOpt_ok {o : Option MV} {s : Nat} {r : Res} (h : R.ofOpt o s = .ok r) : ∃ m, o = some m ∧ r = { mv := m } := by
  cases o with
  | none => simp [R.ofOpt] at h
  | some m => exact ⟨m, rfl, R.v_ok h⟩

/-! ### Values -/
theorem ofC_den (Γ : Ctx) {v : Value} {m : MC} (h : ofC v = some m) : m.den Γ = v := by
  unfold ofC at h
  split at h <;> cases h <;> rfl
theorem ofC_on {L : Nat → Prop} {v : Value} {m : MC} (h : ofC v = some m) : m.on L := by
  unfold ofC at h
  split at h <;> cases h <;> trivial
theorem ofCs_den (Γ : Ctx) : ∀ {vs : List Value} {l : List MC}, ofCs vs = some l → densOf Γ l = vs
  | [], l, h => by simp only [ofCs, Option.some.injEq] at h; subst h; rfl
  | v :: r, l, h => by
    simp only [ofCs] at h
    split at h
    · rename_i m q hm hq
      cases h
      have := ofCs_den Γ hq
      subst this
      simp only [densOf, List.map_cons, ofC_den Γ hm]
    · cases h
theorem ofCs_on {L : Nat → Prop} : ∀ {vs : List Value} {l : List MC}, ofCs vs = some l → csOn L l
  | [], l, h => by simp only [ofCs, Option.some.injEq] at h; subst h; exact fun m hm => absurd hm (by simp)
  | v :: r, l, h => by
    simp only [ofCs] at h
    split at h
    · rename_i m q hm hq
      cases h
      intro x hx
      rcases List.mem_cons.1 hx with rfl | hx
      · exact ofC_on hm
      · exact ofCs_on hq x hx
    · cases h
theorem ofV_rel (Γ : Ctx) (v : Value) : (ofV v).rel Γ v := by
  unfold ofV
  split
  · split
    · rename_i l h
      simp only [MV.rel, MV.den, ofCs_den Γ h]
    · trivial
  · split
    · rename_i m h; exact (ofC_den Γ h).symm
    · trivial
theorem ofV_on (L : Nat → Prop) (v : Value) : (ofV v).on L := by
  unfold ofV
  split
  · split
    · rename_i l h; exact ofCs_on h
    · trivial
  · split
    · rename_i m h; exact ofC_on h
    · trivial
theorem evO_rel {Γ : Ctx} {L : Nat → Prop} {N : Nat} {fr : Fr} {a : Act} (h : Fr.rel Γ L N fr a) (x : Operand) : (evO fr x).rel Γ (a.eval x) ∧ (evO fr x).on L := by
  cases x with
  | tmp t => exact ⟨h.rel t, h.on t⟩
  | const v => exact ⟨ofV_rel Γ v, ofV_on L v⟩
  | global g => exact ⟨trivial, trivial⟩
  | func f => exact ⟨rfl, fun p hp => absurd hp (by simp)⟩
theorem MC.one (Γ : Ctx) (m : MC) : (m.den Γ).oneCell' = true := by cases m <;> rfl
theorem MC.cells_den (Γ : Ctx) (m : MC) : (m.den Γ).cells = #[m.den Γ] := by cases m <;> rfl
theorem densOf_length (Γ : Ctx) (l : List MC) : (densOf Γ l).length = l.length := by simp [densOf]
/-- The cells of a value. -/
theorem cells_rel {Γ : Ctx} {m : MV} {l : List MC} (h : m.cells = some l) {v : Value} (hv : m.rel Γ v) : v.cells = (densOf Γ l).toArray := by
  cases m <;> simp only [MV.cells, reduceCtorEq, Option.some.injEq] at h
  · subst h; rw [MV.rel_c hv, MC.cells_den]; rfl
  · subst h; rw [MV.rel_agg hv]; rfl
theorem cells_on {L : Nat → Prop} {m : MV} {l : List MC} (h : m.cells = some l) (hm : m.on L) : csOn L l := by
  cases m <;> simp only [MV.cells, reduceCtorEq, Option.some.injEq] at h
  · subst h; intro x hx; rcases List.mem_singleton.1 hx with rfl; exact hm
  · subst h; exact hm

/-! ### Types -/
theorem aggB_run {P : Program} {t : Nat} {b : Bool} (h : aggB P t = some b) (w : World) : (isAgg t).run P w = .ok b w := by
  unfold aggB at h
  unfold isAgg
  cases hu : P.underlying t with
  | none => simp [hu] at h
  | some d =>
    rw [Sem.run_bind, run_underlying hu w]
    cases d <;> simp [hu] at h <;> subst h <;> rfl
theorem szB_info {P : Program} {t n : Nat} (h : szB P t = some n) : ∃ i, P.info? t = some i ∧ i.size = n := by
  unfold szB at h
  cases hi : P.info? t with
  | none => simp [hi] at h
  | some i => exact ⟨i, rfl, by simpa [hi] using h⟩
theorem szB_run {P : Program} {t n : Nat} (h : szB P t = some n) (w : World) : (sizeOf t).run P w = .ok n w := by
  obtain ⟨i, hi, rfl⟩ := szB_info h
  simp [sizeOf, typeInfo, hi]
theorem zeroM_info {P : Program} {t : Nat} {cs : List MC} (h : zeroM P t = some cs) : ∃ i z, P.info? t = some i ∧ i.zero = some z ∧ ∀ Γ, z.cells = (densOf Γ cs).toArray := by
  unfold zeroM at h
  cases hi : P.info? t with
  | none => simp [hi] at h
  | some i =>
    simp only [hi] at h
    cases hz : i.zero with
    | none => simp [hz] at h
    | some z =>
      simp only [hz] at h
      exact ⟨i, z, rfl, hz, fun Γ => by rw [ofCs_den Γ h]⟩
theorem zeroM_on {P : Program} {t : Nat} {cs : List MC} (h : zeroM P t = some cs) (L : Nat → Prop) : csOn L cs := by
  unfold zeroM at h
  split at h
  · split at h
    · exact ofCs_on h
    · cases h
  · cases h
theorem zrow_spec : ∀ (l : List Value) (n : Nat), ∃ k, (zrow l n).1 = n + k ∧ l = List.replicate k (.int .u8 0) ++ (zrow l n).2
  | [], n => ⟨0, rfl, rfl⟩
  | v :: l, n => by
    unfold zrow
    split
    · split
      · obtain ⟨k, h1, h2⟩ := zrow_spec l (n + 1)
        exact ⟨k + 1, by rw [h1]; omega, by rw [List.replicate_succ, List.cons_append, ← h2]; rfl⟩
      · exact ⟨0, rfl, rfl⟩
    · exact ⟨0, rfl, rfl⟩
theorem bigM_info {P : Program} {t n : Nat} {tl : List MC} (h : bigM P t = some (n, tl)) : ∃ i z, P.info? t = some i ∧ i.zero = some z ∧ (∀ Γ, z.cells.toList = List.replicate n (.int .u8 0) ++ densOf Γ tl) ∧ ∀ L, csOn L tl := by
  unfold bigM at h
  cases hi : P.info? t with
  | none => simp [hi] at h
  | some i =>
    simp only [hi] at h
    cases hz : i.zero with
    | none => simp [hz] at h
    | some z =>
      simp only [hz] at h
      split at h
      · rename_i z' hb hz'
        cases hz'
        obtain ⟨k, h1, h2⟩ := zrow_spec z.cells.toList 0
        split at h
        · rename_i r hzr
          simp only [Option.some.injEq, Prod.mk.injEq] at h
          obtain ⟨h3, rfl⟩ := h
          subst h3
          exact ⟨i, z, rfl, hz, fun Γ => by rw [h1, Nat.zero_add, ofCs_den Γ hzr]; exact h2, fun L => ofCs_on hzr⟩
        · cases h
      · cases h
/-- A part of an aggregate. -/
theorem partM_run {P : Program} {t off : Nat} {cs : List MC} {m : MV} (h : partM P t cs off = some m) (Γ : Ctx) (rest : List Value) (w : World) :
    ∃ v, (part t (densOf Γ cs ++ rest).toArray off).run P w = .ok v w ∧ m.rel Γ v := by
  unfold partM at h
  split at h
  · rename_i n ha hs
    split at h
    · rename_i hle
      cases h
      refine ⟨.agg ((densOf Γ cs ++ rest).toArray.extract off (off + n)), by unfold part; simp only [Sem.run_bind, aggB_run ha, Result.andThen_ok, if_true, szB_run hs, Sem.run_pure], ?_⟩
      simp only [MV.rel, MV.den]
      congr 1
      apply Array.toList_inj.1
      have hl := densOf_length Γ cs
      simp only [List.extract_toArray, List.extract_eq_take_drop, show off + n - off = n from by omega]
      rw [List.drop_append_of_le_length (by omega), List.take_append_of_le_length (by simp; omega)]
      simp [densOf]
    · cases h
  · rename_i ha
    split at h
    · rename_i mc hc
      cases h
      have hlt : off < cs.length := (List.getElem?_eq_some_iff.1 hc).1
      have hv : (densOf Γ cs ++ rest).toArray[off]? = some (mc.den Γ) := by
        simp only [List.getElem?_toArray]
        rw [List.getElem?_append_left (by rw [densOf_length]; exact hlt)]
        simp [densOf, hc]
      exact ⟨mc.den Γ, by unfold part; simp [Sem.run_bind, aggB_run ha, hv], rfl⟩
    · cases h
  · cases h
theorem partM_on {P : Program} {t off : Nat} {cs : List MC} {m : MV} (h : partM P t cs off = some m) {L : Nat → Prop} (hc : csOn L cs) : m.on L := by
  unfold partM at h
  split at h
  · split at h
    · cases h; exact fun x hx => hc x (List.mem_of_mem_drop (List.mem_of_mem_take hx))
    · cases h
  · split at h
    · rename_i hx; cases h; exact hc _ (List.mem_of_getElem? hx)
    · cases h
  · cases h

/-! ### Loads -/
theorem litN_some {e : E} {n : Nat} (h : litN e = some n) (ρ : Val) : (e.I ρ).toNat = n ∧ 0 ≤ e.I ρ := by
  unfold litN at h
  split at h
  · split at h
    · cases h; simp only [E.I]; exact ⟨trivial, by assumption⟩
    · cases h
  · cases h
theorem cell_of_block {w : World} {g : Nat} {cs : Array Value} {t : Nat} {fr : Nat × Nat} (h : w.heap[g]? = some (.cells cs t fr)) (j : Nat) : w.cell? ⟨g, j, none⟩ = cs[j]? :=
  cell_of_row w g j cs t fr h
theorem aggB_isRow {P : Program} {t : Nat} (h : aggB P t = some true) : ∃ d, P.underlying t = some d ∧ d.isRow = true := by
  unfold aggB at h
  cases hu : P.underlying t with
  | none => simp [hu] at h
  | some d => refine ⟨d, rfl, ?_⟩; cases d <;> simp [hu] at h ⊢
/-- Reading a variable that lies in a block, from one cell on. -/
theorem run_load_cells {P : Program} {w : World} {g o t : Nat} {vs : List Value} (hc : ∀ j v, vs[j]? = some v → w.cell? ⟨g, o + j, none⟩ = some v)
    (ha : aggB P t = some true) (hs : szB P t = some vs.length) : (Instr.loadAt t (.pointer (some ⟨g, o, none⟩))).run P w = .ok (.agg vs.toArray) w := by
  obtain ⟨d, hu, hd⟩ := aggB_isRow ha
  exact run_loadAt_mid w g o t vs d hc hu hd hs
theorem run_load_cell {P : Program} {w : World} {g o t : Nat} {v : Value} (hc : w.cell? ⟨g, o, none⟩ = some v) (ha : aggB P t = some false) :
    (Instr.loadAt t (.pointer (some ⟨g, o, none⟩))).run P w = .ok v w := by
  simp only [Instr.loadAt, Instr.sureAddr, Sem.run_bind, Sem.run_pure, Result.andThen_ok, loadVar, aggB_run ha, Bool.false_eq_true, if_false, run_load, hc]
theorem geZero_spec {ρ : Val} {bs : Bds} {fs : Facts} (hb : bs.hold ρ) (hf : fs.hold ρ) {e : E} (h : geZero bs fs e = true) : 0 ≤ e.I ρ := by
  unfold geZero at h
  split at h
  · rename_i l hl
    have := (bnd_has hb hf e).1 l hl
    simp at h; omega
  · cases h
theorem isT_spec {ρ : Val} {e : E} (h : isT e = true) : e.T ρ = true := by
  unfold isT at h
  split at h
  · simp [E.T]
  · cases h
theorem inRow_spec {ρ : Val} {bs : Bds} {fs : Facts} (hb : bs.hold ρ) (hf : fs.hold ρ) {o n : E} {s : Nat} (h : inRow bs fs o s n = true) : 0 ≤ o.I ρ ∧ o.I ρ + s ≤ n.I ρ := by
  unfold inRow at h
  rw [Bool.or_eq_true] at h
  rcases h with h | h
  · unfold inRowK at h
    split at h
    · rename_i len k
      split at h
      · rename_i i r hs
        simp only [Bool.and_eq_true, decide_eq_true_iff] at h
        obtain ⟨hk, h1, h2, h3, h4⟩ := h
        have h3 := geZero_spec hb hf h3
        have h4 := isT_spec (ρ := ρ) h4
        rw [mkLt_T hb hf, decide_eq_true_iff, mkAdd_I] at h4
        have ho : o.I ρ = i.I ρ * k + r := by
          unfold scaled at hs
          split at hs
          · split at hs
            · rename_i hk
              have hk := ibeq_eq hk
              cases hs
              simp only [E.I, hk]
            · cases hs
          · split at hs
            · rename_i hk
              have hk := ibeq_eq hk
              cases hs
              simp only [E.I, hk]; omega
            · cases hs
          · cases hs
        simp only [E.I] at h4 ⊢
        rw [ho]
        have hr := Int.mul_ediv_add_emod r k
        have hr0 : 0 ≤ r / k := Int.ediv_nonneg h1 (by omega)
        have h5 : (i.I ρ + r / k + 1) * k ≤ len.I ρ * k := Int.mul_le_mul_of_nonneg_right (by omega) (by omega)
        have h6 : 0 ≤ i.I ρ * k := Int.mul_nonneg h3 (by omega)
        have h7 : (i.I ρ + r / k + 1) * k = i.I ρ * k + k * (r / k) + k := by rw [Int.add_mul, Int.add_mul, Int.mul_comm (r / k) k]; omega
        constructor <;> omega
      · cases h
    · cases h
  · rw [Bool.and_eq_true] at h
    refine ⟨geZero_spec hb hf h.1, ?_⟩
    have h2 := h.2
    rw [Bool.or_eq_true] at h2
    rcases h2 with h2 | h2
    · have := isT_spec (ρ := ρ) h2
      rw [mkLe_T hb hf, decide_eq_true_iff, mkAdd_I] at this
      simpa [E.I] using this
    · rw [Bool.and_eq_true] at h2
      have hs := Nat.eq_of_beq_eq_true h2.1
      have := isT_spec (ρ := ρ) h2.2
      rw [mkLt_T hb hf, decide_eq_true_iff] at this
      omega
theorem modOf_spec {ρ : Val} {e : E} {s r : Nat} (hs : 0 < s) (h : modOf e s = some r) (h0 : 0 ≤ e.I ρ) : (e.I ρ).toNat % s = r := by
  unfold modOf at h
  split at h
  · split at h
    · cases h; simp only [E.I]
    · cases h
  · split at h
    · rename_i hh
      cases h
      simp only [E.I] at h0 ⊢
      rename_i a n
      obtain ⟨k, hk⟩ : ∃ k : Nat, n = (k : Int) * s := by
        refine ⟨n.toNat / s, ?_⟩
        have := Nat.div_add_mod n.toNat s
        rw [hh.2, Nat.add_zero, Nat.mul_comm] at this
        have h2 : ((n.toNat / s * s : Nat) : Int) = n := by rw [this]; omega
        exact h2.symm.trans (Int.natCast_mul _ _)
      have h3 : (E.I ρ a * n) % (s : Int) = 0 := by rw [hk, ← Int.mul_assoc]; exact Int.mul_emod_left _ _
      have h4 : ((E.I ρ a * n).toNat : Int) = E.I ρ a * n := Int.toNat_of_nonneg h0
      have h5 : (((E.I ρ a * n).toNat % s : Nat) : Int) = 0 := by rw [Int.natCast_emod, h4]; exact h3
      omega
    · cases h
  · split at h
    · rename_i hh
      cases h
      simp only [E.I] at h0 ⊢
      rename_i a n m
      obtain ⟨k, hk⟩ : ∃ k : Nat, n = (k : Int) * s := by
        refine ⟨n.toNat / s, ?_⟩
        have := Nat.div_add_mod n.toNat s
        rw [hh.2.1, Nat.add_zero, Nat.mul_comm] at this
        have h2 : ((n.toNat / s * s : Nat) : Int) = n := by rw [this]; omega
        exact h2.symm.trans (Int.natCast_mul _ _)
      have h4 : ((E.I ρ a * n + m).toNat : Int) = E.I ρ a * n + m := Int.toNat_of_nonneg h0
      have h6 : (m.toNat : Int) = m := Int.toNat_of_nonneg hh.2.2
      have h5 : (((E.I ρ a * n + m).toNat % s : Nat) : Int) = ((m.toNat % s : Nat) : Int) := by
        rw [Int.natCast_emod, Int.natCast_emod, h4, h6, hk, ← Int.mul_assoc, Int.add_comm, Int.add_mul_emod_self_right]
      omega
    · cases h
  · split at h
    · rename_i hh; cases h; subst hh; omega
    · cases h
theorem rowCells_length (x : E) (ks : List IntKind) (o : E) (r : Nat) : ∀ s j, (rowCells x ks o r s j).length = s
  | 0, _ => rfl
  | s + 1, j => by simp [rowCells, rowCells_length x ks o r s (j + 1)]
theorem rowCells_get (x : E) (ks : List IntKind) (o : E) (r : Nat) : ∀ s j i, i < s → (rowCells x ks o r s j)[i]? = some (.int (ks.getD ((r + (j + i)) % ks.length) .u8) (mkRd x (mkAdd o (.lit (j + i : Nat)))))
  | 0, _, i, h => by omega
  | s + 1, j, 0, _ => by simp [rowCells]
  | s + 1, j, i + 1, h => by
    simp only [rowCells, List.getElem?_cons_succ]
    rw [rowCells_get x ks o r s (j + 1) i (by omega)]
    rw [show j + 1 + i = j + (i + 1) from by omega]
theorem rowCells_on (x : E) (ks : List IntKind) (o : E) (r : Nat) (L : Nat → Prop) : ∀ s j, csOn L (rowCells x ks o r s j)
  | 0, _ => fun m hm => absurd hm (by simp [rowCells])
  | s + 1, j => by
    intro m hm
    simp only [rowCells, List.mem_cons] at hm
    rcases hm with rfl | hm
    · trivial
    · exact rowCells_on x ks o r L s (j + 1) m hm
theorem rowV_rel {Γ : Ctx} {x : E} {ks : List IntKind} {o : E} {r s : Nat} (ho : 0 ≤ o.I Γ.ρ) : (rowV x ks o r s).rel Γ (.agg (densOf Γ (rowCells x ks o r s 0)).toArray) := by
  unfold rowV
  split
  · show Value.agg _ = .agg (rowDen Γ x o s 0).toArray
    congr 2
    apply List.ext_getElem?
    intro i
    by_cases hi : i < s
    · have hg := rowCells_get x [.u8] o r s 0 i hi
      simp only [Nat.zero_add] at hg
      have e : (o.I Γ.ρ + (i : Int)).toNat = (o.I Γ.ρ).toNat + i := by omega
      simp [densOf, rowDen, hg, hi, MC.den, mkRd_I, mkAdd_I, E.I, e, Nat.mod_one]
    · rw [List.getElem?_eq_none (by rw [densOf_length, rowCells_length]; omega), List.getElem?_eq_none (by simp [rowDen]; omega)]
  · rfl
theorem rowV_on (x : E) (ks : List IntKind) (o : E) (r s : Nat) (L : Nat → Prop) : (rowV x ks o r s).on L := by
  unfold rowV
  split
  · trivial
  · exact rowCells_on _ _ _ _ _ _ _
/-- A computation of a value that changes nothing. -/
def RanP (P : Program) (Γ : Ctx) (L : Nat → Prop) (r : Res) (w : World) (x : Sem Value) : Prop :=
  ∃ v, x.run P w = .ok v w ∧ r.mv.rel Γ v ∧ r.mv.on L ∧ r = { mv := r.mv }
theorem RanP.pure {P : Program} {Γ : Ctx} {L : Nat → Prop} {m : MV} {w : World} {x : Sem Value} {v : Value} (h : x.run P w = .ok v w) (hv : m.rel Γ v) (hm : m.on L) : RanP P Γ L { mv := m } w x :=
  ⟨v, h, hv, hm, rfl⟩
theorem RanP.toV {P : Program} {Γ : Ctx} {L : Nat → Prop} {S : St} {r : Res} {w : World} {x : Sem Value} (h : RanP P Γ L r w x) : RanV P Γ L S r w x := by
  obtain ⟨v, h1, h2, h3, h4⟩ := h
  rw [h4]
  exact RanV.pure h1 h2 h3
theorem loadM_pure {P : Program} {bs : Bds} {fs : Facts} {t : Nat} {p : MV} {S : St} {r : Res} {Γ : Ctx} {L : Nat → Prop} {w : World} {pv : Value}
    (h : loadM P bs fs t p S = .ok r) (hp : p.rel Γ pv) (hS : S.rel Γ L w) (hb : bs.hold Γ.ρ) (hf : fs.hold Γ.ρ) : RanP P Γ L r w (Instr.loadAt t pv) := by
  unfold loadM at h
  split at h
  · rename_i b o
    have hp := MV.rel_c hp
    subst hp
    split at h
    · rename_i cs tt q hB
      have hrel := hS.rel b
      have hon := hS.on b
      rw [hB] at hrel hon
      obtain ⟨rest, hh, _, _⟩ := hrel
      split at h
      · rename_i n hn
        obtain ⟨m, hm, rfl⟩ := R.ofOpt_ok h
        have hno := (litN_some hn Γ.ρ).1
        simp only [MC.den, hno]
        have hcell := cell_of_block hh
        unfold partM at hm
        split at hm
        · rename_i k ha hs
          split at hm
          · rename_i hle
            cases hm
            refine RanP.pure (run_load_cells (vs := densOf Γ ((cs.drop n).take k)) (fun j v hv => ?_) ha (by rw [hs]; simp [densOf]; omega)) rfl
              (fun x hx => hon x (List.mem_of_mem_drop (List.mem_of_mem_take hx)))
            rw [hcell, List.getElem?_toArray]
            have hj : j < k := by have := (List.getElem?_eq_some_iff.1 hv).1; simp [densOf] at this; omega
            rw [List.getElem?_append_left (by rw [densOf_length]; omega)]
            simpa [densOf, hj, List.getElem?_take, List.getElem?_drop] using hv
          · cases hm
        · rename_i ha
          split at hm
          · rename_i mc hc
            cases hm
            refine RanP.pure (run_load_cell ?_ ha) rfl (hon _ (List.mem_of_getElem? hc))
            have hlt := (List.getElem?_eq_some_iff.1 hc).1
            rw [hcell, List.getElem?_toArray, List.getElem?_append_left (by rw [densOf_length]; exact hlt)]
            simp [densOf, hc]
            rfl
          · cases hm
        · cases hm
      · cases h
    · rename_i x ks lo n tt wr tl hB
      have hrel := hS.rel b
      have hon := hS.on b
      rw [hB] at hrel hon
      obtain ⟨cs, fr, la, lm, tt', hh, hla, hlm, hsz, hcs, htl, _⟩ := hrel
      split at h
      · -- behind the row
        rename_i j m0 tl' hj
        obtain ⟨m, hm, rfl⟩ := R.ofOpt_ok h
        obtain ⟨hj1, hj2⟩ := litN_some hj Γ.ρ
        rw [mkSub_I, mkSub_I] at hj1 hj2
        have hno : (o.I Γ.ρ).toNat = la + lm + j := by omega
        simp only [MC.den, hno]
        have hcell := cell_of_block hh
        unfold partM at hm
        split at hm
        · rename_i k ha hs
          split at hm
          · rename_i hle
            cases hm
            refine RanP.pure (run_load_cells (vs := densOf Γ (((m0 :: tl').drop j).take k)) (fun i v hv => ?_) ha (by rw [hs, densOf_length, List.length_take, List.length_drop]; congr 1; omega)) rfl
              (fun x hx => hon x (List.mem_of_mem_drop (List.mem_of_mem_take hx)))
            rw [hcell, show la + lm + j + i = la + lm + (j + i) from by omega]
            refine htl (j + i) v ?_
            have hi : i < k := by have := (List.getElem?_eq_some_iff.1 hv).1; simp [densOf] at this; omega
            simpa [densOf, hi, List.getElem?_take, List.getElem?_drop] using hv
          · cases hm
        · rename_i ha
          split at hm
          · rename_i mc hc
            cases hm
            refine RanP.pure (run_load_cell ?_ ha) rfl (hon _ (List.mem_of_getElem? hc))
            rw [hcell]
            exact htl j _ (by show (densOf Γ (m0 :: tl'))[j]? = some (mc.den Γ); rw [densOf, List.getElem?_map, hc]; rfl)
          · cases hm
        · cases hm
      · split at h
        · rename_i ag s r' ha hs hr
          split at h
          · rename_i hin
            rw [Bool.and_eq_true, decide_eq_true_iff] at hin
            obtain ⟨hin, hks⟩ := hin
            have hrow := inRow_spec hb hf hin
            have hmod := modOf_spec (ρ := Γ.ρ) hks hr hrow.1
            have hsub : (mkSub o lo).I Γ.ρ = o.I Γ.ρ - lo.I Γ.ρ := mkSub_I _ _ _
            have hoff : (o.I Γ.ρ).toNat = la + ((mkSub o lo).I Γ.ρ).toNat := by omega
            have hcell : ∀ i, i < s → w.cell? ⟨Γ.id b, (o.I Γ.ρ).toNat + i, none⟩ = some (.int (ks.getD ((r' + i) % ks.length) .u8) ((mkRd x (mkAdd (mkSub o lo) (.lit (i : Nat)))).I Γ.ρ)) := fun i hi => by
              rw [cell_of_block hh, hoff, Nat.add_assoc, hcs _ (by omega), mkRd_I, mkAdd_I]
              have e1 : ((mkSub o lo).I Γ.ρ + (E.lit ((i : Nat) : Int)).I Γ.ρ).toNat = ((mkSub o lo).I Γ.ρ).toNat + i := by simp only [E.I]; omega
              rw [e1, ← hmod, Nat.mod_add_mod]
            simp only [MC.den]
            split at h
            · rename_i hag
              subst hag
              have h := R.v_ok h
              subst h
              refine RanP.pure (run_load_cells (vs := densOf Γ (rowCells x ks (mkSub o lo) r' s 0)) (fun j v hv => ?_) ha (by rw [hs, densOf_length, rowCells_length])) (rowV_rel hrow.1) (rowV_on _ _ _ _ _ _)
              have hj : j < s := by have := (List.getElem?_eq_some_iff.1 hv).1; rw [densOf_length, rowCells_length] at this; exact this
              rw [hcell j hj]
              have hg := rowCells_get x ks (mkSub o lo) r' s 0 j hj
              simp only [Nat.zero_add] at hg
              simp only [densOf, List.getElem?_map, hg, Option.map_some, Option.some.injEq] at hv
              rw [← hv]; rfl
            · rename_i hag
              have hag : ag = false := by simpa using hag
              subst hag
              split at h
              · rename_i h1
                have h := R.v_ok h
                subst h
                subst h1
                have hc0 := hcell 0 (by omega)
                simp only [Nat.add_zero] at hc0
                refine RanP.pure (run_load_cell hc0 ha) ?_ trivial
                simp only [MV.rel, MV.den, MC.den, mkRd_I, mkAdd_I]
                simp [E.I]
              · cases h
          · cases h
        · cases h
    · cases h
  · cases h
theorem loadM_sound {P : Program} {bs : Bds} {fs : Facts} {t : Nat} {p : MV} {S : St} {r : Res} {Γ : Ctx} {L : Nat → Prop} {w : World} {pv : Value}
    (h : loadM P bs fs t p S = .ok r) (hp : p.rel Γ pv) (hS : S.rel Γ L w) (hb : bs.hold Γ.ρ) (hf : fs.hold Γ.ρ) : RanV P Γ L S r w (Instr.loadAt t pv) := (loadM_pure h hp hS hb hf).toV
end Sx
end Go.Proofs.Ytigblagodlfedaa
