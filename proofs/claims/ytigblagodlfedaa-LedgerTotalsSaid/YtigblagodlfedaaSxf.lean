/- The symbolic run: new blocks, builds, operators. -/
import Derived.Test.YtigblagodlfedaaSxe
namespace Go.Proofs.Ytigblagodlfedaa
namespace Sx
open Go.RowKit

/-! ### New blocks -/
def Ctx.push (Γ : Ctx) (n i z : Nat) : Ctx := ⟨Γ.ρ, fun j => if j = n then i else Γ.id j, fun j => if j = n then z else Γ.sz j⟩
theorem Ctx.push_agree (Γ : Ctx) (n i z : Nat) {L : Nat → Prop} (hL : ∀ j, L j → j < n) : Agree Γ (Γ.push n i z) L :=
  ⟨rfl, fun j hj => by have := hL j hj; simp only [Ctx.push]; rw [if_neg (by omega)], fun j hj => by have := hL j hj; simp only [Ctx.push]; rw [if_neg (by omega)]⟩
theorem heap_alloc_lt (w : World) (o : Obj) (k : Nat) (h : k < w.heap.size) : (w.alloc o).heap[k]? = w.heap[k]? := by
  show (w.heap.push o)[k]? = _
  rw [Array.getElem?_push, if_neg (by omega)]
theorem heap_alloc_new (w : World) (o : Obj) : (w.alloc o).heap[w.heap.size]? = some o := by
  show (w.heap.push o)[w.heap.size]? = _
  rw [Array.getElem?_push, if_pos rfl]
theorem size_alloc (w : World) (o : Obj) : (w.alloc o).heap.size = w.heap.size + 1 := by
  show (w.heap.push o).size = _
  rw [Array.size_push]
/-- An operation that makes one block. -/
theorem Step.make {Γ : Ctx} {L : Nat → Prop} {S : St} {w w0 : World} {o : Obj} {B : Blk} {m : MV} {z : Nat} {u : List (Nat × Blk)} (hw : w0.heap = w.heap) (hwo : w0.os = w.os) (hwt : w0.tape = w.tape) (hwu : w0.output = w.output)
    (hB : B.rel (Γ.push S.n w.heap.size z) (w0.alloc o) S.n)
    (hon : B.on L) (hm : m.on fun j => L j ∨ j = S.n) (hu : ∀ p ∈ u, p.2 = .gone ∧ ¬ (S.get p.1).Gone) : Step Γ (Γ.push S.n w.heap.size z) L S { mv := m, new := [B], upd := u } w (w0.alloc o) :=
  have hz : ∀ i, i < [B].length → i = 0 := fun i hi => by simpa using hi
  { ρ := rfl
    id := fun j hj => by simp only [List.length_singleton] at hj; simp only [Ctx.push]; rw [if_neg (by omega)]
    sz := fun j hj => by simp only [List.length_singleton] at hj; simp only [Ctx.push]; rw [if_neg (by omega)]
    os := hwo, tape := hwt, output := hwu
    size := by rw [size_alloc, hw]; omega
    keep := fun k hk _ => by rw [heap_alloc_lt _ _ _ (by rw [hw]; exact hk), hw]
    new := fun i hi => by rw [hz i hi]; exact hB
    fresh := fun i hi _ => .inl (by rw [hz i hi]; simp [Ctx.push])
    apart := fun i i' hi hi' _ _ _ => (hz i hi).trans (hz i' hi').symm
    upd := fun p hp => ⟨by rw [(hu p hp).1]; trivial, (hu p hp).2⟩
    once := fun q hq _ _ _ _ => (hu q hq).1
    onMv := MV.on_mono (fun j hj => hj.imp (fun h => h) fun h => by simp; omega) hm
    onNew := fun b hb => by simp at hb; subst hb; exact Blk.on_mono (fun j h => .inl h) hon
    onUpd := fun p hp => by rw [(hu p hp).1]; trivial }
theorem newVarM_sound {P : Program} {t : Nat} {l : List MC} {S : St} {r : Res} {Γ : Ctx} {L : Nat → Prop} {w : World} {v : Value} {x : Sem Value}
    (h : newVarM t (some l) S = .ok r) (hv : v.cells = (densOf Γ l).toArray) (hlo : csOn L l) (hL : ∀ j, L j → j < S.n)
    (hx : x.run P w = .ok (.pointer (some ⟨w.heap.size, 0, none⟩)) (w.alloc (.cells v.cells t))) : RanV P Γ L S r w x := by
  simp only [newVarM, R.ok.injEq] at h
  subst h
  refine ⟨Γ.push S.n w.heap.size 0, _, _, hx, ?_, Step.make rfl rfl rfl rfl ⟨[], ?_, fun _ => rfl, fun h => absurd rfl h⟩ hlo (.inr rfl) (fun p hp => absurd hp (by simp))⟩
  · simp only [MV.rel, MV.den, MC.den, Ctx.push, if_true, E.I]; rfl
  · rw [List.append_nil, densOf_agree (Ctx.push_agree Γ S.n w.heap.size 0 hL) hlo]
    simp only [Ctx.push, if_true]
    rw [heap_alloc_new, hv]
theorem newBig_sound {P : Program} {t n : Nat} {X : E} {tl : List MC} {S : St} {Γ : Ctx} {L : Nat → Prop} {w : World} {v : Value} {x : Sem Value}
    (hv : v.cells.toList = (List.range n).map (fun j => Value.int .u8 (X.A Γ.ρ j)) ++ densOf Γ tl) (hlo : csOn L tl) (hL : ∀ j, L j → j < S.n)
    (hx : x.run P w = .ok (.pointer (some ⟨w.heap.size, 0, none⟩)) (w.alloc (.cells v.cells t))) : RanV P Γ L S { mv := .c (.ptr S.n (.lit 0)), new := [.arr X [.u8] (.lit 0) (.lit n) t 1 tl] } w x := by
  have hsz : v.cells.size = n + tl.length := by rw [← Array.length_toList, hv]; simp [densOf]
  have hget : ∀ i, v.cells[i]? = ((List.range n).map (fun j => Value.int .u8 (X.A Γ.ρ j)) ++ densOf Γ tl)[i]? := fun i => by rw [← hv, Array.getElem?_toList]
  have hlen : ((List.range n).map (fun j => Value.int .u8 (X.A Γ.ρ j))).length = n := by simp
  refine ⟨Γ.push S.n w.heap.size 0, _, _, hx, ?_, Step.make rfl rfl rfl rfl ⟨v.cells, (0, 0), 0, n, t, ?_, rfl, rfl, by omega, fun i hi => ?_, fun i u hu => ?_, fun _ => ⟨rfl, rfl⟩, fun q hq => by omega⟩ hlo (.inr rfl) (fun p hp => absurd hp (by simp))⟩
  · simp only [MV.rel, MV.den, MC.den, Ctx.push, if_true, E.I]; rfl
  · simp only [Ctx.push, if_true]
    rw [heap_alloc_new]
  · rw [Nat.zero_add, hget, List.getElem?_append_left (by rw [hlen]; exact hi)]
    simp [hi, Nat.mod_one, Ctx.push]
  · rw [densOf_agree (Ctx.push_agree Γ S.n w.heap.size 0 hL) hlo] at hu
    rw [Nat.zero_add, hget, List.getElem?_append_right (by rw [hlen]; omega), hlen, Nat.add_sub_cancel_left]; exact hu
theorem zeros_map (ρ : Val) (n : Nat) : List.replicate n (Value.int .u8 0) = (List.range n).map (fun j => Value.int .u8 ((E.bl false).A ρ j)) := by
  apply List.ext_getElem? 
  intro i
  simp only [List.getElem?_replicate, List.getElem?_map]
  by_cases h : i < n
  · rw [if_pos h, List.getElem?_range h]; rfl
  · rw [if_neg h, List.getElem?_eq_none (by simpa using h)]; rfl
theorem nilsB_eq : ∀ {l : List MC}, nilsB l = true → l = List.replicate l.length .nils
  | [], _ => rfl
  | .nils :: l, h => by rw [List.length_cons, List.replicate_succ, ← nilsB_eq (l := l) h]
  | .int _ _ :: _, h => by simp [nilsB] at h
  | .bool _ :: _, h => by simp [nilsB] at h
  | .str _ :: _, h => by simp [nilsB] at h
  | .sv _ :: _, h => by simp [nilsB] at h
  | .ptr _ _ :: _, h => by simp [nilsB] at h
  | .nilp :: _, h => by simp [nilsB] at h
  | .slice _ _ _ _ :: _, h => by simp [nilsB] at h
  | .fn _ _ :: _, h => by simp [nilsB] at h
  | .nilf :: _, h => by simp [nilsB] at h
  | .emp _ _ _ _ :: _, h => by simp [nilsB] at h
theorem densOf_nils (Γ : Ctx) (m : Nat) : densOf Γ (List.replicate m .nils) = List.replicate m (.slice none 0 0) := by simp [densOf, MC.den]
theorem nils_on (L : Nat → Prop) (m : Nat) : csOn L (List.replicate m .nils) := fun q hq => by rw [(List.mem_replicate.1 hq).2]; trivial
theorem run_box {P : Program} (w : World) (t : Nat) (v : Value) : (Instr.box t v).run P w = .ok (.pointer (some ⟨w.heap.size, 0, none⟩)) (w.alloc (.cells v.cells t)) := by
  simp [Instr.box, newVar, newRow]
theorem run_alloc {P : Program} (w : World) (t : Nat) (i : TypeInfo) (z : Value) (hi : P.info? t = some i) (hz : i.zero = some z) :
    (Instr.alloc t true (.tuple #[])).run P w = .ok (.pointer (some ⟨w.heap.size, 0, none⟩)) (w.alloc (.cells z.cells t)) := by
  simp [Instr.alloc, zeroValue, typeInfo, hi, hz, newVar, newRow]

/-! ### Builds -/
inductive Both {α β : Type} (R : α → β → Prop) : List α → List β → Prop where
  | nil : Both R [] []
  | cons {a : α} {b : β} {l : List α} {r : List β} (h : R a b) (t : Both R l r) : Both R (a :: l) (b :: r)
theorem fold_splice : ∀ (vs : List Value) (off k : Nat) (cells : Array Value), off + k + vs.length ≤ cells.size →
    ((vs.zipIdx k).foldl (fun cs (x : Value × Nat) => cs.setIfInBounds (off + x.2) x.1) cells).toList = cells.toList.take (off + k) ++ vs ++ cells.toList.drop (off + k + vs.length)
  | [], off, k, cells, _ => by simp
  | v :: vs, off, k, cells, h => by
    simp only [List.length_cons] at h
    simp only [List.zipIdx_cons, List.foldl_cons]
    rw [fold_splice vs off (k + 1) _ (by simp; omega)]
    apply List.ext_getElem?
    intro i
    have hsz : cells.toList.length = cells.size := by simp
    rw [splice_get _ _ _ (by simp; omega), show off + (k + 1) = off + k + 1 from by omega]
    have h2 := splice_get cells.toList (v :: vs) (off + k) (by simp; omega) i
    simp only [List.length_cons] at h2 ⊢
    rw [h2]
    by_cases h1 : i = off + k
    · subst h1
      rw [if_neg (by omega), if_pos (by omega)]
      rw [Array.toList_setIfInBounds, List.getElem?_set, if_pos rfl, if_pos (by rw [hsz]; omega)]
      simp
    · by_cases h3 : off + k ≤ i ∧ i < off + k + (vs.length + 1)
      · rw [if_pos (by omega), if_pos h3]
        rw [show i - (off + k) = (i - (off + k + 1)) + 1 from by omega, List.getElem?_cons_succ]
      · rw [if_neg (by omega), if_neg h3]
        simp only [Array.toList_setIfInBounds, List.getElem?_set]
        rw [if_neg (by omega)]
theorem fillM_spec {Γ : Ctx} {place : Nat → Option (Nat × Nat)} : ∀ {ps : List (Nat × List MC)} {qs : List (Nat × Value)} {cs out : List MC},
    fillM place cs ps = some out → Both (fun (p : Nat × List MC) (q : Nat × Value) => q.1 = p.1 ∧ q.2.cells = (densOf Γ p.2).toArray) ps qs →
    Instr.fill place (densOf Γ cs).toArray qs = some (densOf Γ out).toArray
  | [], _, cs, out, h, hq => by
    cases hq
    simp only [fillM, Option.some.injEq] at h
    subst h
    rfl
  | (i, l) :: ps, _, cs, out, h, hq => by
    cases hq with
    | @cons _ q _ qs hq1 hq2 =>
    obtain ⟨i', v⟩ := q
    obtain ⟨e1, e2⟩ := hq1
    simp only at e1 e2
    subst e1
    simp only [fillM] at h
    simp only [Instr.fill]
    cases hp : place i' with
    | none => simp [hp] at h
    | some pr =>
      obtain ⟨off, size⟩ := pr
      simp only [hp] at h ⊢
      have hdl := densOf_length Γ l
      have hdc := densOf_length Γ cs
      rw [e2]
      simp only [List.size_toArray, hdl, hdc]
      split at h
      · cases h
      · rename_i hc
        rw [if_neg hc]
        have hfit : off + l.length ≤ cs.length := by simp at hc; omega
        have hf := fold_splice (densOf Γ l) off 0 (densOf Γ cs).toArray (by simp [hdl, hdc]; omega)
        have hs := splice_den Γ cs l off [] hfit
        simp only [List.append_nil, Nat.add_zero] at hf hs
        rw [hdl] at hf
        rw [hs] at hf
        have hz : (densOf Γ l).toArray.zipIdx.foldl (fun cs (x : Value × Nat) => cs.setIfInBounds (off + x.2) x.1) (densOf Γ cs).toArray = (densOf Γ (splice cs off l)).toArray := by
          apply Array.toList_inj.1
          rw [← Array.foldl_toList, Array.toList_zipIdx]
          exact hf
        have hz' : (densOf Γ l).toArray.zipIdx.foldl (fun cs x => match x with | (c, j) => cs.setIfInBounds (off + j) c) (densOf Γ cs).toArray = (densOf Γ (splice cs off l)).toArray := hz
        rw [hz']
        exact fillM_spec h hq2
theorem splice_mem {cs l : List MC} {n : Nat} {m : MC} (h : m ∈ splice cs n l) : m ∈ cs ∨ m ∈ l := by
  simp only [splice, List.mem_append] at h
  rcases h with (h | h) | h
  · exact .inl (List.mem_of_mem_take h)
  · exact .inr h
  · exact .inl (List.mem_of_mem_drop h)
theorem fillM_on {L : Nat → Prop} {place : Nat → Option (Nat × Nat)} : ∀ {ps : List (Nat × List MC)} {cs out : List MC}, fillM place cs ps = some out → csOn L cs → (∀ p ∈ ps, csOn L p.2) → csOn L out
  | [], cs, out, h, hc, _ => by simp only [fillM, Option.some.injEq] at h; subst h; exact hc
  | (i, l) :: ps, cs, out, h, hc, hp => by
    simp only [fillM] at h
    split at h
    · cases h
    · split at h
      · cases h
      · exact fillM_on h (fun m hm => (splice_mem hm).elim (hc m) (hp (i, l) (by simp) m)) (fun p hq => hp p (by simp [hq]))
theorem partsM_spec {Γ : Ctx} {L : Nat → Prop} {ev : Operand → MV} {f : Operand → Value} (he : ∀ x, (ev x).rel Γ (f x) ∧ (ev x).on L) : ∀ {parts : List (Nat × Operand)} {ps : List (Nat × List MC)}, partsM ev parts = some ps →
    Both (fun (p : Nat × List MC) (q : Nat × Value) => q.1 = p.1 ∧ q.2.cells = (densOf Γ p.2).toArray) ps (parts.map fun x => (x.1, f x.2)) ∧ ∀ p ∈ ps, csOn L p.2
  | [], ps, h => by simp only [partsM, Option.some.injEq] at h; subst h; exact ⟨.nil, fun p hp => absurd hp (by simp)⟩
  | (i, x) :: parts, ps, h => by
    simp only [partsM] at h
    split at h
    · rename_i l q hl hq
      cases h
      obtain ⟨h1, h2⟩ := partsM_spec he hq
      refine ⟨.cons ⟨rfl, cells_rel hl (he x).1⟩ h1, fun p hp => ?_⟩
      rcases List.mem_cons.1 hp with rfl | hp
      · exact cells_on hl (he x).2
      · exact h2 p hp
    · cases h
theorem placesB_spec {P : Program} : ∀ {fs : List Field} {pl : List (Nat × Nat)}, placesB P fs = some pl → fs.mapM (fun f => (P.info? f.type).map fun i => (f.offset, i.size)) = some pl
  | [], pl, h => by simp only [placesB, Option.some.injEq] at h; subst h; rfl
  | f :: fs, pl, h => by
    simp only [placesB] at h
    split at h
    · rename_i n l hn hl
      cases h
      obtain ⟨i, hi, hs⟩ := szB_info hn
      simp [List.mapM_cons, hi, hs, placesB_spec hl]
    · cases h
theorem buildM_sound {P : Program} {t : Nat} {ev : Operand → MV} {f : Operand → Value} {parts : Array (Nat × Operand)} {S : St} {r : Res} {Γ : Ctx} {L : Nat → Prop} {w : World}
    (h : buildM P t (partsM ev parts.toList) = .ok r) (he : ∀ x, (ev x).rel Γ (f x) ∧ (ev x).on L) : RanV P Γ L S r w (Instr.build t (parts.map fun (i, x) => (i, f x))) := by
  unfold buildM at h
  split at h
  · rename_i ps z fields hps hz hu
    obtain ⟨i, zv, hi, hiz, hzc⟩ := zeroM_info hz
    split at h
    · rename_i pl hpl
      obtain ⟨m, hm, rfl⟩ := R.ofOpt_ok h
      obtain ⟨out, ho, rfl⟩ := Option.map_eq_some_iff.1 hm
      obtain ⟨hq, hon⟩ := partsM_spec he hps
      have hfill := fillM_spec (Γ := Γ) ho hq
      refine RanV.pure (v := .agg (densOf Γ out).toArray) (run_build w t _ _ ?_) rfl (fillM_on ho (zeroM_on hz L) hon)
      unfold Program.built
      simp only [hi, hu, hiz, placesB_spec hpl, hzc Γ]
      have : (parts.map fun (x : Nat × Operand) => (x.1, f x.2)).toList = parts.toList.map fun x => (x.1, f x.2) := Array.toList_map
      simp only [this]
      simpa using hfill
    · cases h
  · rename_i ps z n el hps hz hu
    obtain ⟨i, zv, hi, hiz, hzc⟩ := zeroM_info hz
    split at h
    · rename_i s hs
      obtain ⟨ie, hie, hies⟩ := szB_info hs
      obtain ⟨m, hm, rfl⟩ := R.ofOpt_ok h
      obtain ⟨out, ho, rfl⟩ := Option.map_eq_some_iff.1 hm
      obtain ⟨hq, hon⟩ := partsM_spec he hps
      have hfill := fillM_spec (Γ := Γ) ho hq
      refine RanV.pure (v := .agg (densOf Γ out).toArray) (run_build w t _ _ ?_) rfl (fillM_on ho (zeroM_on hz L) hon)
      unfold Program.built
      simp only [hi, hu, hiz, hie, hies, hzc Γ]
      have : (parts.map fun (x : Nat × Operand) => (x.1, f x.2)).toList = parts.toList.map fun x => (x.1, f x.2) := Array.toList_map
      simp only [this]
      exact hfill
    · cases h
  · cases h
theorem buildX_sound {P : Program} {t : Nat} {ev : Operand → MV} {f : Operand → Value} {parts : Array (Nat × Operand)} {S : St} {r : Res} {Γ : Ctx} {L : Nat → Prop} {w : World}
    (h : buildX P t (partsM ev parts.toList) = .ok r) (he : ∀ x, (ev x).rel Γ (f x) ∧ (ev x).on L) : RanV P Γ L S r w (Instr.build t (parts.map fun (i, x) => (i, f x))) := by
  unfold buildX at h
  split at h
  · rename_i n tl hps hbig
    split at h
    · rename_i fields hnils hu
      split at h
      · rename_i pl hpl
        cases h
        obtain ⟨i, zv, hi, hiz, hzc, _⟩ := bigM_info hbig
        have hq := (partsM_spec he hps).1
        have hz : zv.cells = (densOf Γ (List.replicate n (.int .u8 (.lit 0)) ++ tl)).toArray := by
          rw [← Array.toArray_toList (xs := zv.cells), hzc Γ]; congr 1; simp [densOf, MC.den, E.I]
        have hfill := fillM_spec (Γ := Γ) (place := fun i => pl[i]?) (ps := []) (cs := List.replicate n (.int .u8 (.lit 0)) ++ tl) rfl hq
        refine RanV.pure (v := .agg (densOf Γ (List.replicate n (.int .u8 (.lit 0)) ++ tl)).toArray) (run_build w t _ _ ?_) ?_ trivial
        · unfold Program.built
          simp only [hi, hu, hiz, placesB_spec hpl, hz]
          have : (parts.map fun (x : Nat × Operand) => (x.1, f x.2)).toList = parts.toList.map fun x => (x.1, f x.2) := Array.toList_map
          simp only [this]
          simpa using hfill
        · simp only [MV.rel, MV.den, rowDen, E.I, Int.toNat_zero, Nat.zero_add]
          rw [← zeros_map Γ.ρ n, ← densOf_nils Γ, ← nilsB_eq hnils]
          simp [densOf, MC.den, E.I]
      · cases h
    · exact buildM_sound h he
  · exact buildM_sound h he
theorem reps_get {α : Type} [Inhabited α] (z : List α) (hz : 0 < z.length) : ∀ (n i : Nat), i < n * z.length → (List.flatten (List.replicate n z))[i]? = some z[i % z.length]!
  | 0, i, h => by omega
  | n + 1, i, h => by
    rw [List.replicate_succ, List.flatten_cons, List.getElem?_append]
    by_cases hi : i < z.length
    · rw [if_pos hi, Nat.mod_eq_of_lt hi, List.getElem?_eq_getElem hi]
      simp [hi]
    · rw [if_neg hi, reps_get z hz n (i - z.length) (by rw [Nat.succ_mul] at h; omega)]
      congr 2
      conv => rhs; rw [show i = i - z.length + z.length from by omega, Nat.add_mod_right]
theorem reps_den (Γ : Ctx) (z : List MC) : ∀ n, densOf Γ (reps z n) = List.flatten (List.replicate n (densOf Γ z))
  | 0 => rfl
  | n + 1 => by
    rw [List.replicate_succ, List.flatten_cons, ← reps_den Γ z n]
    simp [reps, densOf]
theorem reps_on {L : Nat → Prop} {z : List MC} (h : csOn L z) : ∀ n, csOn L (reps z n)
  | 0 => fun m hm => absurd hm (by simp [reps])
  | n + 1 => fun m hm => by
    simp only [reps, List.mem_append] at hm
    exact hm.elim (h m) (reps_on h n m)
theorem zeros_eq (Γ : Ctx) (z : List MC) (n : Nat) (hz : 0 < z.length) :
    (Array.range (n * z.length)).map ((densOf Γ z).toArray[· % (densOf Γ z).toArray.size]!) = (densOf Γ (reps z n)).toArray := by
  have hl := densOf_length Γ z
  apply Array.toList_inj.1
  apply List.ext_getElem?
  intro i
  rw [reps_den, Array.toList_map]
  simp only []
  by_cases hi : i < n * z.length
  · rw [reps_get _ (by omega) n i (by rw [hl]; exact hi)]
    simp [hi]
  · have h1 : ¬ i < n * (densOf Γ z).length := by rw [hl]; exact hi
    rw [List.getElem?_eq_none (by simp; omega), List.getElem?_eq_none (by simp; omega)]
theorem buildSliceM_sound {P : Program} {t len : Nat} {ev : Operand → MV} {f : Operand → Value} {parts : Array (Nat × Operand)} {S : St} {r : Res} {Γ : Ctx} {L : Nat → Prop} {w : World}
    (h : buildSliceM P t len (partsM ev parts.toList) S = .ok r) (he : ∀ x, (ev x).rel Γ (f x) ∧ (ev x).on L) (hL : ∀ j, L j → j < S.n) : RanV P Γ L S r w (Instr.buildSlice t len (parts.map fun (i, x) => (i, f x))) := by
  unfold buildSliceM at h
  split at h
  · rename_i ps el hps hu
    split at h
    · rename_i z s hz hs
      obtain ⟨i, zv, hi, hiz, hzc⟩ := zeroM_info hz
      obtain ⟨ie, hie, hies⟩ := szB_info hs
      rw [hi, Option.some.injEq] at hie
      subst hie
      split at h
      · rename_i hc
        split at h
        · rename_i cs ho
          cases h
          obtain ⟨hq, hon⟩ := partsM_spec he hps
          have hfill := fillM_spec (Γ := Γ) ho hq
          have hco := fillM_on ho (reps_on (zeroM_on hz L) _) hon
          · have hrun := run_buildSlice (P := P) w t el len (parts.map fun (x : Nat × Operand) => (x.1, f x.2)) (densOf Γ cs).toArray i zv hu hi hiz (by rw [hies]; omega) (by rw [hies]; intro h0; rcases Nat.mul_eq_zero.1 h0 with h0 | h0 <;> omega) (by
              have : (parts.map fun (x : Nat × Operand) => (x.1, f x.2)).toList = parts.toList.map fun x => (x.1, f x.2) := Array.toList_map
              rw [this, hies, hzc Γ, ← hc.1, zeros_eq Γ z len (by omega), hc.1]
              exact hfill)
            refine ⟨Γ.push S.n w.heap.size 0, _, _, hrun, ?_, Step.make rfl rfl rfl rfl ⟨[], ?_, fun _ => rfl, fun h => absurd rfl h⟩ hco (.inr rfl) (fun p hp => absurd hp (by simp))⟩
            · simp only [MV.rel, MV.den, MC.den, Ctx.push, if_true, E.I, Cap.den]; rfl
            · rw [List.append_nil, densOf_agree (Ctx.push_agree Γ S.n w.heap.size 0 hL) hco]
              simp only [Ctx.push, if_true]
              rw [heap_alloc_new]
        · cases h
      · cases h
    · cases h
  · cases h
theorem buildSliceX_sound {P : Program} {t len : Nat} {ev : Operand → MV} {f : Operand → Value} {parts : Array (Nat × Operand)} {S : St} {r : Res} {Γ : Ctx} {L : Nat → Prop} {w : World}
    (h : buildSliceX P t len (partsM ev parts.toList) S = .ok r) (he : ∀ x, (ev x).rel Γ (f x) ∧ (ev x).on L) (hL : ∀ j, L j → j < S.n) : RanV P Γ L S r w (Instr.buildSlice t len (parts.map fun (i, x) => (i, f x))) := by
  unfold buildSliceX at h
  split at h
  · rename_i el hps hu
    have hp : parts = #[] := by
      have : ∀ l : List (Nat × Operand), partsM ev l = some [] → l = [] := fun l => by
        cases l with
        | nil => intro _; rfl
        | cons p l =>
          intro hl
          simp only [partsM] at hl
          split at hl
          · cases hl
          · cases hl
      exact Array.toList_inj.1 (this _ hps)
    subst hp
    split at h
    · rename_i s hs
      cases h
      have hrun : (Instr.buildSlice t 0 ((#[] : Array (Nat × Operand)).map fun (x : Nat × Operand) => (x.1, f x.2))).run P w = .ok (.slice (some ⟨w.heap.size, 0, none⟩) 0 0) (w.alloc (.cells #[] el)) := by
        simp [Instr.buildSlice, run_underlying hu, szB_run hs, Instr.fill, newRow]
        rw [show Array.range 0 = #[] from by simp, Array.map_empty]
      refine ⟨Γ.push S.n w.heap.size 0, _, _, hrun, ?_, Step.make rfl rfl rfl rfl ⟨[], ?_, fun _ => rfl, fun h => absurd rfl h⟩ (fun m hm => absurd hm (by simp)) (.inr rfl) (fun p hp => absurd hp (by simp))⟩
      · simp only [MV.rel, MV.den, MC.den, Ctx.push, if_true, E.I, Cap.den]; rfl
      · simp only [Ctx.push, if_true]
        rw [heap_alloc_new]
        rfl
    · cases h
  · exact buildSliceM_sound h he hL
end Sx
end Go.Proofs.Ytigblagodlfedaa
