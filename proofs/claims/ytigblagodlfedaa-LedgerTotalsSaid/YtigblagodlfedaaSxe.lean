/- The symbolic run: stores, addresses, new blocks, builds. -/
import Derived.Test.YtigblagodlfedaaSxd
namespace Go.Proofs.Ytigblagodlfedaa
namespace Sx
open Go.RowKit

/-- An operation that turns one block that may be written. -/
theorem Step.turn {Γ : Ctx} {L : Nat → Prop} {S : St} {w : World} {b : Nat} {cs : Array Value} {B : Blk}
    (hg : ¬ (S.get b).Gone) (hB : B.rel Γ (w.setRow (Γ.id b) cs) b) (hon : B.on L) : Step Γ Γ L S { mv := .und, upd := [(b, B)] } w (w.setRow (Γ.id b) cs) :=
  { ρ := rfl, id := fun _ _ => rfl, sz := fun _ _ => rfl, os := rfl, tape := rfl, output := rfl, size := by simp
    keep := fun k _ hk => setRow_other w (Γ.id b) k cs (Ne.symm (hk (b, B) (by simp)))
    new := fun i h => absurd h (by simp), fresh := fun i h => absurd h (by simp), apart := fun i _ h => absurd h (by simp)
    upd := fun p hp => by simp at hp; subst hp; exact ⟨hB, hg⟩
    once := fun q hq p hp _ h => by simp at hq hp; subst hq hp; exact h
    onMv := trivial, onNew := fun b h => absurd h (by simp)
    onUpd := fun p hp => by simp at hp; subst hp; exact Blk.on_mono (fun j h => .inl h) hon }

theorem run_store_of {P : Program} {w : World} {g o t : Nat} {v : Value} {vs : List Value} {cur : Array Value} {tt : Nat} (hc : v.cells = vs.toArray) (hs : szB P t = some vs.length)
    (hg : w.heap[g]? = some (.cells cur tt (0, 0))) (hfit : o + vs.length ≤ cur.size) (h1 : ∀ v ∈ vs, v.oneCell' = true) :
    (Instr.storeAt t (.pointer (some ⟨g, o, none⟩)) v).run P w = .ok () (w.setRow g (cur.toList.take o ++ vs ++ cur.toList.drop (o + vs.length)).toArray) := by
  have h := run_storeCells_at P g o tt vs 0 cur w hg (by simpa using hfit) h1
  simp only [Nat.add_zero] at h
  simp only [Instr.storeAt, Instr.sureAddr, Sem.run_bind, Sem.run_pure, Result.andThen_ok, storeVar, szB_run hs, hc, List.size_toArray, ne_eq, not_true_eq_false, if_false, h]
theorem densOf_one {Γ : Ctx} {l : List MC} : ∀ v ∈ densOf Γ l, v.oneCell' = true := by
  intro v hv
  obtain ⟨m, _, rfl⟩ := List.mem_map.1 hv
  exact MC.one Γ m
theorem splice_den (Γ : Ctx) (cs l : List MC) (n : Nat) (rest : List Value) (h : n + l.length ≤ cs.length) :
    (densOf Γ cs ++ rest).take n ++ densOf Γ l ++ (densOf Γ cs ++ rest).drop (n + l.length) = densOf Γ (splice cs n l) ++ rest := by
  have hl := densOf_length Γ cs
  rw [List.take_append_of_le_length (by omega), List.drop_append_of_le_length (by omega)]
  simp [splice, densOf, List.map_take, List.map_drop]
theorem splice_length {α : Type} (cs l : List α) (n : Nat) (h : n + l.length ≤ cs.length) : (cs.take n ++ l ++ cs.drop (n + l.length)).length = cs.length := by
  simp; omega
theorem splice_on {L : Nat → Prop} {cs l : List MC} {n : Nat} (h : csOn L cs) (hl : csOn L l) : csOn L (splice cs n l) := by
  intro m hm
  simp only [splice, List.mem_append] at hm
  rcases hm with (hm | hm) | hm
  · exact h m (List.mem_of_mem_take hm)
  · exact hl m hm
  · exact h m (List.mem_of_mem_drop hm)
/-- The cells of a row behind a splice. -/
theorem splice_get {α : Type} (cs l : List α) (n : Nat) (h : n + l.length ≤ cs.length) (i : Nat) :
    (cs.take n ++ l ++ cs.drop (n + l.length))[i]? = if n ≤ i ∧ i < n + l.length then l[i - n]? else cs[i]? := by
  rw [List.append_assoc, List.getElem?_append]
  have hn : (cs.take n).length = n := by simp; omega
  rw [hn]
  by_cases h1 : i < n
  · rw [if_pos h1, if_neg (by omega), List.getElem?_take, if_pos h1]
  · rw [if_neg h1, List.getElem?_append]
    by_cases h2 : i - n < l.length
    · rw [if_pos h2, if_pos (by omega)]
    · rw [if_neg h2, if_neg (by omega), List.getElem?_drop]
      congr 1; omega
theorem updRow_spec {Γ : Ctx} {ks : List IntKind} {o : E} {r : Nat} (ho : 0 ≤ o.I Γ.ρ) : ∀ (l : List MC) (j : Nat) (x y : E), updRow x ks o r l j = some y →
    (∀ i, i < l.length → ∃ e, l[i]? = some (.int (ks.getD ((r + (j + i)) % ks.length) .u8) e) ∧ y.A Γ.ρ ((o.I Γ.ρ).toNat + (j + i)) = e.I Γ.ρ) ∧
    (∀ i, ¬ ((o.I Γ.ρ).toNat + j ≤ i ∧ i < (o.I Γ.ρ).toNat + j + l.length) → y.A Γ.ρ i = x.A Γ.ρ i)
  | [], j, x, y, h => by
    simp only [updRow, Option.some.injEq] at h
    subst h
    exact ⟨fun i hi => absurd hi (by simp), fun _ _ => rfl⟩
  | m :: l, j, x, y, h => by
    cases m <;> simp only [updRow, reduceCtorEq] at h
    rename_i k e
    split at h
    · rename_i hk
      have hk := kbeq_eq hk
      subst hk
      obtain ⟨h1, h2⟩ := updRow_spec ho l (j + 1) _ y h
      have ej : ((mkAdd o (.lit (j : Nat))).I Γ.ρ).toNat = (o.I Γ.ρ).toNat + j := by rw [mkAdd_I]; simp only [E.I]; omega
      constructor
      · intro i hi
        rcases i with _ | i
        · refine ⟨e, by simp, ?_⟩
          rw [h2 _ (by omega)]
          simp only [E.A, ej, Nat.add_zero, if_true]
        · obtain ⟨e', h3, h4⟩ := h1 i (by simp at hi; omega)
          refine ⟨e', ?_, ?_⟩
          · rw [List.getElem?_cons_succ, h3, show j + 1 + i = j + (i + 1) from by omega]
          · rw [show j + (i + 1) = j + 1 + i from by omega]; exact h4
      · intro i hi
        simp only [List.length_cons] at hi
        rw [h2 i (by omega)]
        simp only [E.A, ej]
        rw [if_neg (by omega)]
    · cases h
/-- A store turns the block. -/
theorem storeM_sound {P : Program} {bs : Bds} {fs : Facts} {t : Nat} {p v : MV} {S : St} {r : Res} {Γ : Ctx} {L : Nat → Prop} {w : World} {pv vv : Value}
    (h : storeM P bs fs t p v S = .ok r) (hp : p.rel Γ pv) (hv : v.rel Γ vv) (hvo : v.on L) (hS : S.rel Γ L w) (hb : bs.hold Γ.ρ) (hf : fs.hold Γ.ρ) :
    ∃ w', (Instr.storeAt t pv vv).run P w = .ok () w' ∧ r.mv = .und ∧ Step Γ Γ L S r w w' := by
  unfold storeM at h
  split at h
  · rename_i b o l hl
    have hp := MV.rel_c hp
    subst hp
    have hcells := cells_rel hl hv
    have hlon := cells_on hl hvo
    have hdl := densOf_length Γ l
    split at h
    · rename_i hsz
      split at h
      · rename_i cs tt q hB
        have hrel := hS.rel b
        have hon := hS.on b
        have hgone : ¬ (S.get b).Gone := by rw [hB]; simp [Blk.Gone]
        rw [hB] at hrel hon
        obtain ⟨rest, hh, hq0, hq1⟩ := hrel
        split at h
        · rename_i n hn
          split at h
          · rename_i hfit
            cases h
            have hno := (litN_some hn Γ.ρ).1
            refine ⟨_, by
              simp only [MC.den, hno]
              exact run_store_of hcells (by rw [hdl]; exact hsz) hh (by simp [densOf]; omega) densOf_one, rfl, ?_⟩
            refine Step.turn hgone ?_ (splice_on hon hlon)
            refine ⟨rest, ?_, hq0, ?_⟩
            · rw [setRow_heap w _ _ _ _ _ hh]
              simp only [hdl]
              rw [splice_den Γ cs l n rest hfit]
            · intro hq
              rw [← hq1 hq, show (splice cs n l).length = cs.length from splice_length cs l n hfit]
          · cases h
        · cases h
      · rename_i x ks lo n tt wr tl hB
        have hrel := hS.rel b
        have hon := hS.on b
        have hgone : ¬ (S.get b).Gone := by rw [hB]; simp [Blk.Gone]
        rw [hB] at hrel hon
        obtain ⟨cs, fr, la, lm, tt', hh, hla, hlm, hsize, hcs, htl, hfr, hq⟩ := hrel
        obtain ⟨hfr, htt⟩ := hfr (by omega)
        subst hfr htt
        have hlen : cs.toList.length = cs.size := by simp
        split at h
        · -- behind the row
          rename_i j m0 tl' hj
          split at h
          · rename_i hfitj
            cases h
            obtain ⟨hj1, hj2⟩ := litN_some hj Γ.ρ
            rw [mkSub_I, mkSub_I] at hj1 hj2
            have hno : (o.I Γ.ρ).toNat = la + lm + j := by omega
            have hfit : la + lm + j + l.length ≤ cs.size := by omega
            refine ⟨_, by
              simp only [MC.den, hno]
              exact run_store_of hcells (by rw [hdl]; exact hsz) hh (by rw [hdl]; exact hfit) densOf_one, rfl, ?_⟩
            refine Step.turn hgone ?_ (splice_on hon hlon)
            have hsp : (splice (m0 :: tl') j l).length = (m0 :: tl').length := splice_length _ l j hfitj
            refine ⟨_, (0, 0), la, lm, tt', setRow_heap w _ _ _ _ _ hh, hla, hlm, ?_, fun i hi => ?_, fun i v hv => ?_, fun _ => ⟨rfl, rfl⟩, fun q hq' => ?_⟩
            · rw [List.size_toArray, splice_length _ _ _ (by rw [hdl, hlen]; exact hfit), hlen, hsp]; exact hsize
            · rw [List.getElem?_toArray, splice_get _ _ _ (by rw [hdl, hlen]; exact hfit), hdl, if_neg (by omega)]
              have := hcs i hi
              simpa using this
            · rw [List.getElem?_toArray, splice_get _ _ _ (by rw [hdl, hlen]; exact hfit), hdl]
              have hv' : ((densOf Γ (m0 :: tl')).take j ++ densOf Γ l ++ (densOf Γ (m0 :: tl')).drop (j + l.length))[i]? = some v := by
                have := splice_den Γ (m0 :: tl') l j [] hfitj
                simp only [List.append_nil] at this
                rw [this]; exact hv
              have hdm := densOf_length Γ (m0 :: tl')
              rw [show j + l.length = j + (densOf Γ l).length from by rw [hdl], splice_get _ _ _ (by rw [hdl, hdm]; exact hfitj), hdl] at hv'
              by_cases hc : j ≤ i ∧ i < j + l.length
              · rw [if_pos hc] at hv'
                rw [if_pos (by omega), show la + lm + i - (la + lm + j) = i - j from by omega]
                exact hv'
              · rw [if_neg hc] at hv'
                rw [if_neg (by omega)]
                have := htl i v hv'
                simpa using this
            · rw [List.size_toArray, splice_length _ _ _ (by rw [hdl, hlen]; exact hfit), hlen]; exact hq q hq'
          · cases h
        · split at h
          · rename_i r' hr
            split at h
            · rename_i hin
              rw [Bool.and_eq_true, decide_eq_true_iff] at hin
              obtain ⟨hin, hks⟩ := hin
              split at h
              · rename_i y hy
                cases h
                have hrow := inRow_spec hb hf hin
                have hmod := modOf_spec (ρ := Γ.ρ) hks hr hrow.1
                have hsub : (mkSub o lo).I Γ.ρ = o.I Γ.ρ - lo.I Γ.ρ := mkSub_I _ _ _
                have hoff : (o.I Γ.ρ).toNat = la + ((mkSub o lo).I Γ.ρ).toNat := by omega
                have hfit : (o.I Γ.ρ).toNat + l.length ≤ cs.size := by omega
                refine ⟨_, by
                  simp only [MC.den]
                  exact run_store_of hcells (by rw [hdl]; exact hsz) hh (by rw [hdl]; exact hfit) densOf_one, rfl, ?_⟩
                refine Step.turn hgone ?_ hon
                obtain ⟨hu1, hu2⟩ := updRow_spec hrow.1 l 0 x y hy
                refine ⟨_, (0, 0), la, lm, tt', setRow_heap w _ _ _ _ _ hh, hla, hlm, ?_, fun i hi => ?_, fun i v hv => ?_, fun _ => ⟨rfl, rfl⟩, fun q hq' => ?_⟩
                · rw [List.size_toArray, splice_length _ _ _ (by rw [hdl, hlen]; exact hfit), hlen]; exact hsize
                · rw [List.getElem?_toArray, splice_get _ _ _ (by rw [hdl, hlen]; exact hfit), hdl]
                  by_cases hc : ((mkSub o lo).I Γ.ρ).toNat ≤ i ∧ i < ((mkSub o lo).I Γ.ρ).toNat + l.length
                  · rw [if_pos (by omega)]
                    obtain ⟨e, he1, he2⟩ := hu1 (i - ((mkSub o lo).I Γ.ρ).toNat) (by omega)
                    simp only [Nat.zero_add] at he1 he2
                    rw [show ((mkSub o lo).I Γ.ρ).toNat + (i - ((mkSub o lo).I Γ.ρ).toNat) = i from by omega] at he2
                    rw [show la + i - (o.I Γ.ρ).toNat = i - ((mkSub o lo).I Γ.ρ).toNat from by omega]
                    simp only [densOf, List.getElem?_map, he1, Option.map_some, MC.den, he2]
                    have : (r' + (i - ((mkSub o lo).I Γ.ρ).toNat)) % ks.length = i % ks.length := by
                      rw [← hmod, Nat.mod_add_mod]; congr 1; omega
                    rw [this]
                  · rw [if_neg (by omega), hu2 i (by omega)]
                    have := hcs i hi
                    simpa using this
                · rw [List.getElem?_toArray, splice_get _ _ _ (by rw [hdl, hlen]; exact hfit), hdl, if_neg (by omega)]
                  have := htl i v hv
                  simpa using this
                · rw [List.size_toArray, splice_length _ _ _ (by rw [hdl, hlen]; exact hfit), hlen]; exact hq q hq'
              · cases h
            · cases h
          · cases h
      · cases h
    · cases h
  · cases h

/-! ### Addresses -/
theorem fieldAddrM_sound {P : Program} {bs : Bds} {fs : Facts} {s f : Nat} {x : MV} {S : St} {r : Res} {Γ : Ctx} {L : Nat → Prop} {w : World} {xv : Value}
    (h : fieldAddrM P bs fs s x f = .ok r) (hx : x.rel Γ xv) (hxo : x.on L) (hb : bs.hold Γ.ρ) (hf : fs.hold Γ.ρ) : RanV P Γ L S r w (Instr.fieldAt s xv f) := by
  unfold fieldAddrM at h
  split at h
  · rename_i fields b o hu
    have hx := MV.rel_c hx
    subst hx
    split at h
    · rename_i fd hfd
      split at h
      · rename_i q hs hz
        cases h
        have h0 := geZero_spec hb hf hz
        obtain ⟨i, hi, his⟩ := szB_info hs
        refine RanV.pure (v := .pointer (some ⟨Γ.id b, (o.I Γ.ρ).toNat + fd.offset, none⟩)) ?_ ?_ hxo
        · have hadd : (⟨Γ.id b, (o.I Γ.ρ).toNat, none⟩ : Addr).add fd.offset = ⟨Γ.id b, (o.I Γ.ρ).toNat + fd.offset, none⟩ := Addr.add_mid _ _ _
          simp [Instr.fieldAt, MC.den, run_underlying hu, hfd, Instr.sureAddr, fieldPlace, typeInfo, sizeOf, hi, his, hadd]
        · simp only [MV.rel, MV.den, MC.den, mkAdd_I, E.I]
          rw [show (o.I Γ.ρ + (fd.offset : Nat)).toNat = (o.I Γ.ρ).toNat + fd.offset from by omega]
      · cases h
    · cases h
  · cases h
inductive Ix.Is (ρ : Val) (e : E) (len : Int) : Ix → Prop where
  | at_ {e' : E} (h : e'.I ρ = e.I ρ) (h0 : 0 ≤ e.I ρ) (h1 : e.I ρ < len) : Ix.Is ρ e len (.at_ e')
theorem pickIx_at {ρ : Val} {bs : Bds} {fs : Facts} (hb : bs.hold ρ) (hf : fs.hold ρ) {e e' : E} : ∀ (r j : Nat), pickIx bs fs e r j = .at_ e' → (j : Int) ≤ e.I ρ → e.I ρ ≤ (j + r : Nat) → e'.I ρ = e.I ρ
  | 0, j, h, h0, h1 => by
    simp only [pickIx, Ix.at_.injEq] at h
    subst h
    simp only [E.I]; omega
  | r + 1, j, h, h0, h1 => by
    simp only [pickIx] at h
    have hq := mkEq_T (ρ := ρ) hb hf e (.lit j)
    split at h
    · rename_i hc
      rw [hc] at hq
      cases h
      simp only [E.T] at hq
      exact (eq_of_beq hq.symm).symm
    · rename_i hc
      rw [hc] at hq
      simp only [E.T] at hq
      have hne : e.I ρ ≠ (E.lit (j : Nat)).I ρ := by
        intro he; rw [he] at hq; simp at hq
      simp only [E.I] at hne
      exact pickIx_at hb hf r (j + 1) h (by omega) (by omega)
    · cases h
theorem ixM_at {ρ : Val} {bs : Bds} {fs : Facts} (hb : bs.hold ρ) (hf : fs.hold ρ) {split : Bool} {e len e' : E} (h : ixM bs fs split e len = .at_ e') : e'.I ρ = e.I ρ ∧ 0 ≤ e.I ρ ∧ e.I ρ < len.I ρ := by
  unfold ixM at h
  have hlt := mkLt_T (ρ := ρ) hb hf e len
  split at h
  · cases h
  · rename_i hc
    rw [hc] at hlt
    simp only [E.T] at hlt
    have hlt := of_decide_eq_true hlt.symm
    split at h
    · rename_i hz
      have h0 := geZero_spec hb hf hz
      split at h
      · cases h; exact ⟨rfl, h0, hlt⟩
      · split at h
        · split at h
          · rename_i m
            split at h
            · rename_i hm
              refine ⟨pickIx_at hb hf _ 0 h (by simpa using h0) ?_, h0, hlt⟩
              simp only [E.I] at hlt; omega
            · cases h
          · cases h
        · cases h; exact ⟨rfl, h0, hlt⟩
    · split at h <;> cases h
  · cases h
theorem run_asIntOf {P : Program} (k : IntKind) (n : Int) (w : World) : (asIntOf (.int k n)).run P w = .ok (k, n) w := rfl
theorem indexAddrM_sound {P : Program} {bs : Bds} {fs : Facts} {t : Nat} {x i : MV} {S : St} {r : Res} {Γ : Ctx} {L : Nat → Prop} {w : World} {xv iv : Value}
    (h : indexAddrM P bs fs t x i S = .ok r) (hx : x.rel Γ xv) (hxo : x.on L) (hi : i.rel Γ iv) (hb : bs.hold Γ.ρ) (hf : fs.hold Γ.ρ) : RanV P Γ L S r w (Instr.indexAt t xv iv) := by
  unfold indexAddrM at h
  split at h
  · rename_i len el b o k e hu
    have hx := MV.rel_c hx
    have hi := MV.rel_c hi
    subst hx hi
    split at h
    · rename_i s e' hs he hz
      cases h
      have h0 := geZero_spec hb hf hz
      obtain ⟨h1, h2, h3⟩ := ixM_at hb hf he
      simp only [E.I] at h3
      refine RanV.pure (v := .pointer (some ⟨Γ.id b, (o.I Γ.ρ).toNat + (e.I Γ.ρ).toNat * s, none⟩)) ?_ ?_ hxo
      · simp only [Instr.indexAt, MC.den, Sem.run_bind, run_asIntOf, Result.andThen_ok, run_underlying hu, Instr.sureAddr, Sem.run_pure]
        rw [if_pos ⟨h2, h3⟩]
        simp only [Sem.run_bind, szB_run hs, Result.andThen_ok, Sem.run_pure, Addr.add_mid]
      · simp only [MV.rel, MV.den, MC.den, mkAdd_I, mkMul_I, E.I, h1]
        have : 0 ≤ e.I Γ.ρ * s := Int.mul_nonneg h2 (by omega)
        have h4 : (e.I Γ.ρ * s).toNat = (e.I Γ.ρ).toNat * s := by
          rw [Int.toNat_mul h2 (by omega)]; simp
        rw [Int.toNat_add h0 this, h4]
    · cases h
    · cases h
  · rename_i el b o len cp k e hu
    have hx := MV.rel_c hx
    have hi := MV.rel_c hi
    subst hx hi
    split at h
    · rename_i s e' hs he hz
      cases h
      have h0 := geZero_spec hb hf hz
      obtain ⟨h1, h2, h3⟩ := ixM_at hb hf he
      refine RanV.pure (v := .pointer (some ⟨Γ.id b, (o.I Γ.ρ).toNat + (e.I Γ.ρ).toNat * s, none⟩)) ?_ ?_ hxo
      · simp only [Instr.indexAt, MC.den, Sem.run_bind, run_asIntOf, Result.andThen_ok, run_underlying hu, Instr.sureAddr, Sem.run_pure]
        rw [if_pos ⟨h2, by omega⟩]
        simp only [Sem.run_bind, szB_run hs, Result.andThen_ok, Sem.run_pure, Addr.add_mid]
      · simp only [MV.rel, MV.den, MC.den, mkAdd_I, mkMul_I, E.I, h1]
        have : 0 ≤ e.I Γ.ρ * s := Int.mul_nonneg h2 (by omega)
        have h4 : (e.I Γ.ρ * s).toNat = (e.I Γ.ρ).toNat * s := by
          rw [Int.toNat_mul h2 (by omega)]; simp
        rw [Int.toNat_add h0 this, h4]
    · cases h
    · cases h
  · cases h
theorem fieldM_sound {P : Program} {t f : Nat} {x : MV} {S : St} {r : Res} {Γ : Ctx} {L : Nat → Prop} {w : World} {xv : Value}
    (h : fieldM P t x f = .ok r) (hx : x.rel Γ xv) (hxo : x.on L) : RanV P Γ L S r w (Instr.field t xv f) := by
  unfold fieldM at h
  split at h
  · rename_i fields cs hu
    have hx := MV.rel_agg hx
    subst hx
    split at h
    · rename_i fd hfd
      obtain ⟨m, hm, rfl⟩ := R.ofOpt_ok h
      obtain ⟨v, hv, hr⟩ := partM_run hm Γ [] w
      rw [List.append_nil] at hv
      exact RanV.pure (by simp [Instr.field, run_underlying hu, hfd, asAgg, hv]) hr (partM_on hm hxo)
    · cases h
  · cases h
theorem indexM_sound {P : Program} {t : Nat} {x i : MV} {S : St} {r : Res} {Γ : Ctx} {L : Nat → Prop} {w : World} {xv iv : Value}
    (h : indexM P t x i = .ok r) (hx : x.rel Γ xv) (hxo : x.on L) (hi : i.rel Γ iv) : RanV P Γ L S r w (Instr.index t xv iv) := by
  unfold indexM at h
  split at h
  · rename_i len el cs k n hu
    have hx := MV.rel_agg hx
    have hi := MV.rel_c hi
    subst hx hi
    split at h
    · rename_i s hs
      split at h
      · rename_i hn
        obtain ⟨m, hm, rfl⟩ := R.ofOpt_ok h
        obtain ⟨v, hv, hr⟩ := partM_run hm Γ [] w
        rw [List.append_nil] at hv
        refine RanV.pure ?_ hr (partM_on hm hxo)
        simp only [Instr.index, MC.den, E.I, Sem.run_bind, run_asIntOf, Result.andThen_ok, run_underlying hu]
        rw [if_pos hn]
        simp only [Sem.run_bind, szB_run hs, Result.andThen_ok, hv]
      · cases h
    · cases h
  · cases h
theorem indexX_sound {P : Program} {bs : Bds} {fs : Facts} {t : Nat} {x i : MV} {S : St} {r : Res} {Γ : Ctx} {L : Nat → Prop} {w : World} {xv iv : Value}
    (h : indexX P bs fs t x i = .ok r) (hx : x.rel Γ xv) (hxo : x.on L) (hi : i.rel Γ iv) (hb : bs.hold Γ.ρ) (hf : fs.hold Γ.ρ) : RanV P Γ L S r w (Instr.index t xv iv) := by
  unfold indexX at h
  split at h
  · rename_i len el y o n k e hu
    split at h
    · rename_i s e' hs ha hix
      split at h
      · rename_i hn
        cases h
        have hn := Nat.eq_of_beq_eq_true hn
        have hx : xv = .agg (rowDen Γ y (.lit (.ofNat o)) n 0).toArray := hx
        have hi := MV.rel_c hi
        obtain ⟨h1, h2, h3⟩ := ixM_at hb hf hix
        simp only [E.I] at h3
        let cs : List MC := (List.range n).map fun q => .int .u8 (.lit (y.A Γ.ρ (o + q)))
        have hcs : densOf Γ cs = rowDen Γ y (.lit (.ofNat o)) n 0 := by simp [cs, densOf, rowDen, MC.den, E.I]
        have hlen : cs.length = n := by simp [cs]
        obtain ⟨q, hq⟩ : ∃ q : Nat, e.I Γ.ρ = q := ⟨(e.I Γ.ρ).toNat, by omega⟩
        have hql : q < len := by omega
        have hfit : q * (s + 1) + (s + 1) ≤ n := by
          have : (q + 1) * (s + 1) ≤ len * (s + 1) := Nat.mul_le_mul_right _ (by omega)
          rw [Nat.succ_mul] at this
          omega
        have hpart : partM P el cs (q * (s + 1)) = some (.agg ((cs.drop (q * (s + 1))).take (s + 1))) := by
          unfold partM
          rw [ha, hs]
          simp only
          rw [if_pos (by omega)]
        obtain ⟨v, hv, hr⟩ := partM_run hpart Γ [] w
        rw [List.append_nil, hcs] at hv
        have he0 : (mkAdd (mkMul e' (.lit ((s + 1 : Nat) : Int))) (.lit (o : Int))).I Γ.ρ = (q * (s + 1) + o : Nat) := by
          rw [mkAdd_I, mkMul_I, h1, hq]
          simp only [E.I]
          push_cast
          rfl
        have hsame : densOf Γ (rowCells y [.u8] (mkAdd (mkMul e' (.lit ((s + 1 : Nat) : Int))) (.lit (o : Int))) 0 (s + 1) 0) = densOf Γ ((cs.drop (q * (s + 1))).take (s + 1)) := by
          apply List.ext_getElem?
          intro j
          by_cases hj : j < s + 1
          · have hg := rowCells_get y [.u8] (mkAdd (mkMul e' (.lit ((s + 1 : Nat) : Int))) (.lit (o : Int))) 0 (s + 1) 0 j hj
            have hjn : q * (s + 1) + j < n := by omega
            simp only [densOf, List.getElem?_map, hg, Option.map_some, List.getElem?_take, if_pos hj, List.getElem?_drop, cs, List.getElem?_range hjn]
            have hidx : ((mkAdd (mkAdd (mkMul e' (.lit ((s + 1 : Nat) : Int))) (.lit (o : Int))) (.lit ((0 + j : Nat) : Int))).I Γ.ρ).toNat = o + (q * (s + 1) + j) := by
              rw [mkAdd_I, he0]
              simp only [E.I]
              omega
            simp only [MC.den, mkRd_I, hidx, E.I, List.length_singleton, Nat.mod_one, List.getD_cons_zero]
          · rw [List.getElem?_eq_none (by rw [densOf_length, rowCells_length]; omega), List.getElem?_eq_none (by rw [densOf_length, List.length_take]; omega)]
        have hrel : (MV.agg (rowCells y [.u8] (mkAdd (mkMul e' (.lit ((s + 1 : Nat) : Int))) (.lit (o : Int))) 0 (s + 1) 0)).rel Γ v := by
          have := MV.rel_agg hr
          simp only [MV.rel, MV.den, hsame]
          exact this
        refine RanV.pure ?_ hrel (rowCells_on _ _ _ _ _ _ _)
        subst hx hi
        simp only [Instr.index, MC.den, Sem.run_bind, run_asIntOf, Result.andThen_ok, run_underlying hu]
        rw [if_pos (by rw [hq]; omega)]
        simp only [Sem.run_bind, szB_run hs, Result.andThen_ok, hq, Int.toNat_natCast, hv]
      · cases h
    · cases h
    · cases h
  · exact indexM_sound h hx hxo hi
end Sx
end Go.Proofs.Ytigblagodlfedaa
