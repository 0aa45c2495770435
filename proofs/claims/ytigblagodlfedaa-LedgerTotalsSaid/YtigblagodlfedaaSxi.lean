/- The symbolic run: append. -/
import Derived.Test.YtigblagodlfedaaSxh
import Derived.Laws.AppendOwn
namespace Go.Proofs.Ytigblagodlfedaa
namespace Sx
open Go.RowKit

/-- What the elements of a slice are, where they lie in a block that is known. -/
theorem slCells_spec {P : Program} {el : Nat} {x : MV} {S : St} {n : Nat} {cs : List MC} {Γ : Ctx} {L : Nat → Prop} {w : World} {v : Value}
    (h : slCells P el x S = some (n, cs)) (hx : x.rel Γ v) (hS : S.rel Γ L w) :
    csOn L cs ∧ ((x = .c .nils ∧ v = .slice none 0 0 ∧ n = 0 ∧ cs = []) ∨
      (∃ b o c s cs0 t0 q0, x = .c (.slice b o (.lit n) c) ∧ v = .slice (some ⟨Γ.id b, (o.I Γ.ρ).toNat, none⟩) n (c.den Γ b) ∧ szB P el = some s ∧ cs.length = n * s ∧
        S.get b = .cells cs0 t0 q0 ∧ (o.I Γ.ρ).toNat + n * s ≤ cs0.length ∧ cs = (cs0.drop (o.I Γ.ρ).toNat).take (n * s) ∧
        ∀ j u, (densOf Γ cs)[j]? = some u → w.cell? ((⟨Γ.id b, (o.I Γ.ρ).toNat, none⟩ : Addr).add j) = some u)) := by
  unfold slCells at h
  split at h
  · cases h
    exact ⟨fun m hm => absurd hm (by simp), .inl ⟨rfl, MV.rel_c hx, rfl, rfl⟩⟩
  · rename_i b o len c
    split at h
    · rename_i cs0 t0 q0 n0 s hB hn hs
      split at h
      · rename_i hc
        simp only [Option.some.injEq, Prod.mk.injEq] at h
        obtain ⟨h1, h2⟩ := h
        subst h1 h2
        have hrel := hS.rel b
        have hon := hS.on b
        rw [hB] at hrel hon
        obtain ⟨rest, hh, _, _⟩ := hrel
        have hno := (litN_some hn Γ.ρ).1
        have hlen : (len.toNat : Int) = len := Int.toNat_of_nonneg hc.1
        refine ⟨fun m hm => hon m (List.mem_of_mem_drop (List.mem_of_mem_take hm)), .inr ⟨b, o, c, s, cs0, t0, q0, by rw [hlen], ?_, hs, take_self hc.2, hB, by rw [hno]; exact hc.2, by rw [hno], ?_⟩⟩
        · rw [MV.rel_c hx]; simp only [MC.den, E.I]
        · intro j u hu
          rw [Addr.add_mid, cell_of_block hh, hno, List.getElem?_toArray]
          have hj : j < len.toNat * s := by have := (List.getElem?_eq_some_iff.1 hu).1; rw [densOf_length, take_self hc.2] at this; exact this
          rw [List.getElem?_append_left (by rw [densOf_length]; omega)]
          simpa [densOf, hj, List.getElem?_take, List.getElem?_drop] using hu
      · cases h
    · cases h
  · cases h
theorem run_append_zero {P : Program} (w : World) (t ty e : Nat) (i : TypeInfo) (ht : P.underlying t = some (.slice e)) (hi : P.info? e = some i) (base : Option Addr) (n c : Nat) (h : n ≤ c)
    (v : Value) (hv : (∃ b k, v = .slice b 0 k)) :
    (Builtin.append_ #[t, t] ty #[.slice base n c, v]).run P w = .ok (.slice base n c) w := by
  obtain ⟨b, k, rfl⟩ := hv
  cases b <;> cases base <;> simp [Builtin.append_, run_underlying ht, sizeOf, typeInfo, hi, Builtin.lenOf, h, Builtin.firstCells, loadCells, loadCellsFrom, storeCells]
theorem bytesB_info {P : Program} {t : Nat} {i : TypeInfo} (h : P.info? t = some i) : bytesB P t = i.bytes := by unfold bytesB; rw [h]
theorem appendM_sound {P : Program} {t u ty : Nat} {s x : MV} {S : St} {r : Res} {Γ : Ctx} {L : Nat → Prop} {w : World} {sv xv : Value}
    (h : appendM P t u s x S = .ok r) (hs : s.rel Γ sv) (hso : s.on L) (hx : x.rel Γ xv) (hS : S.rel Γ L w) (hL : ∀ j, L j → j < S.n) :
    RanV P Γ L S r w (Builtin.append_ #[t, u] ty #[sv, xv]) := by
  unfold appendM at h
  split at h
  · rename_i el hu
    split at h
    · rename_i q z ls cs lx xs hsz hz hcs hxs
      obtain ⟨i, zv, hi, hiz, hzc⟩ := zeroM_info hz
      obtain ⟨ie, hie, hies⟩ := szB_info hsz
      rw [hi, Option.some.injEq] at hie
      subst hie
      obtain ⟨hcon, hcs⟩ := slCells_spec hcs hs hS
      obtain ⟨hxon, hxs⟩ := slCells_spec hxs hx hS
      split at h
      · rename_i hc
        obtain ⟨rfl, hlen, hzl, hby⟩ := hc
        rw [bytesB_info hi] at hby
        split at h
        · -- nothing is appended
          rename_i hl0
          have hxv : ∃ b k, xv = .slice b 0 k := by
            rcases hxs with ⟨_, h1, _, _⟩ | ⟨b, o, c, s', cs0, t0, q0, _, h1, _⟩
            · exact ⟨none, 0, h1⟩
            · rw [hl0] at h1; exact ⟨_, _, h1⟩
          split at h
          · cases h
            have hs := MV.rel_c hs
            subst hs
            exact RanV.pure (run_append_zero w t ty el i hu hi none 0 0 (Nat.le_refl _) xv hxv) rfl hso
          · split at h
            · rename_i b o l cp hle
              cases h
              rcases hcs with ⟨h1, _⟩ | ⟨b', o', c', s', cs0, t0, q0, h1, h2, _⟩
              · cases h1
              · cases h1
                refine RanV.pure ?_ hs hso
                rw [h2]
                exact run_append_zero w t ty el i hu hi _ ls _ (by simp only [Cap.den, E.I]; omega) xv hxv
            · cases h
          · cases h
        · rename_i hl0
          -- what is appended
          rcases hxs with ⟨_, _, h3, _⟩ | ⟨bx, ox, cx, sx, csx, tx, qx, _, hxv, hsx, hxl, _, _, _, hxc⟩
          · exact absurd h3 hl0
          rw [hsx, Option.some.injEq] at hsz
          subst hsz
          have hdx := densOf_length Γ xs
          have hzs : zv.cells.size = q + 1 := by rw [hzc Γ]; simp [densOf_length, hzl]
          have hgc : ∀ old, ls + lx ≤ grownCap w (ls + lx) old el := fun old => grownCap_ge w _ old el
          split at h
          · -- to nothing
            cases h
            rcases hcs with ⟨_, _, h3, h4⟩ | ⟨_, _, _, _, _, _, _, h1, _⟩
            · subst h3 h4
              have hs := MV.rel_c hs
              subst hs
              have hrun := run_append_nil (P := P) w t ty el i zv hu hi hiz ⟨Γ.id bx, (ox.I Γ.ρ).toNat, none⟩ lx (cx.den Γ bx) (densOf Γ xs) (by rw [hdx, hxl, hies]) hxc (by omega) (by omega)
                (by have : lx * i.bytes ≤ 1000 * 1000000 := Nat.mul_le_mul (by omega) hby; omega)
              have hg0 := grownCap_ge w lx 0 el
              rw [hxv]
              refine ⟨Γ.push S.n w.heap.size (grownCap w lx 0 el), _, _, hrun, ?_, Step.make rfl rfl rfl rfl ⟨(Builtin.zeroCells zv.cells (grownCap w lx 0 el - lx)).toList, ?_, fun h => absurd h (by omega), fun _ => ?_⟩ hxon (.inr rfl) (fun p hp => absurd hp (by simp))⟩
              · simp only [MV.rel, MV.den, MC.den, Ctx.push, if_true, E.I, Cap.den, Int.toNat_natCast, Nat.sub_zero]; rfl
              · rw [densOf_agree (Ctx.push_agree Γ S.n w.heap.size _ hL) hxon]
                simp only [Ctx.push, if_true]
                rw [show w.heap.size = w.drew.heap.size from rfl, heap_alloc_new]
                congr 1; apply congrArg (fun a => Obj.cells a el (0, 0)); apply Array.toList_inj.1; simp
              · simp only [Ctx.push, if_true, Array.length_toList, size_zeroCells, hzs, hxl]
                rw [← Nat.add_mul]; congr 1; omega
            · cases h1
          · -- to a slice that is full
            rename_i b0 o0 l0 cp _
            split at h
            · rename_i hcp
              cases h
              rcases hcs with ⟨h1, _⟩ | ⟨b', o', c', s', cs0, t0, q0, h1, hsv, hs', hcl, _, _, _, hcc⟩
              · cases h1
              · cases h1
                rw [hsx, Option.some.injEq] at hs'
                subst hs'
                have hdc := densOf_length Γ cs
                have hcap : (Cap.ex (.lit cp)).den Γ b0 = ls := by simp only [Cap.den, E.I]; omega
                rw [hcap] at hsv
                have hfit := growslice_fits (need := ls + lx) (old := ls) (bytes := i.bytes) (by omega) (by have : (ls + lx) * i.bytes ≤ 1000 * 1000000 := Nat.mul_le_mul (by omega) hby; omega)
                have hrun := run_append_grow (P := P) w t ty el i zv hu hi hiz ⟨Γ.id b0, (o0.I Γ.ρ).toNat, none⟩ ls ls (densOf Γ cs) (by rw [hdc, hcl, hies]) hcc ⟨Γ.id bx, (ox.I Γ.ρ).toNat, none⟩ lx (cx.den Γ bx) (densOf Γ xs) (by rw [hdx, hxl, hies]) hxc (by omega) (by omega) hfit
                have hg0 := hgc ls
                have hon : csOn L (cs ++ xs) := fun m hm => (List.mem_append.1 hm).elim (hcon m) (hxon m)
                rw [hxv, hsv]
                refine ⟨Γ.push S.n w.heap.size (grownCap w (ls + lx) ls el), _, _, hrun, ?_, Step.make rfl rfl rfl rfl ⟨(Builtin.zeroCells zv.cells (grownCap w (ls + lx) ls el - (ls + lx))).toList, ?_, fun h => absurd h (by omega), fun _ => ?_⟩ hon (.inr rfl) (fun p hp => absurd hp (by simp))⟩
                · simp only [MV.rel, MV.den, MC.den, Ctx.push, if_true, E.I, Cap.den, Int.toNat_natCast, Nat.sub_zero]; rfl
                · rw [densOf_agree (Ctx.push_agree Γ S.n w.heap.size _ hL) hon]
                  simp only [Ctx.push, if_true]
                  rw [show w.heap.size = w.drew.heap.size from rfl, heap_alloc_new]
                  congr 1; apply congrArg (fun a => Obj.cells a el (0, 0)); apply Array.toList_inj.1; simp [densOf]
                · simp only [Ctx.push, if_true, Array.length_toList, size_zeroCells, hzs, List.length_append, hcl, hxl]
                  rw [← Nat.add_mul, ← Nat.add_mul]; congr 1; omega
            · cases h
          · -- to a slice that may have room
            rename_i b0 l0 _
            split at h
            · rename_i cs1 t' q' hB'
              split at h
              · rename_i htq
                rw [Bool.and_eq_true] at htq
                have ht' := Nat.eq_of_beq_eq_true htq.1
                have hq' := Nat.eq_of_beq_eq_true htq.2
                subst ht' hq'
                cases h
                rcases hcs with ⟨h1, _⟩ | ⟨b', o', c', s', cs0, t0, q0, h1, hsv, hs', hcl, hB, hle, hcut, hcc⟩
                · cases h1
                · cases h1
                  rw [hsx, Option.some.injEq] at hs'
                  subst hs'
                  rw [hB, Blk.cells.injEq] at hB'
                  obtain ⟨e1, e2, e3⟩ := hB'
                  subst e1 e2 e3
                  have hdc := densOf_length Γ cs
                  have hdc0 := densOf_length Γ cs0
                  have hgone : ¬ (S.get b0).Gone := by rw [hB]; simp [Blk.Gone]
                  have hrel := hS.rel b0
                  rw [hB] at hrel
                  obtain ⟨rest, hh, _, hq1⟩ := hrel
                  have hq1 := hq1 (by omega)
                  simp only [E.I, Int.toNat_zero, Nat.zero_add, List.drop_zero] at hsv hle hcut hcc
                  have hcap : (Cap.opn 0).den Γ b0 = Γ.sz b0 := by simp only [Cap.den, Nat.sub_zero]
                  rw [hcap] at hsv
                  have hon : csOn L (cs ++ xs) := fun m hm => (List.mem_append.1 hm).elim (hcon m) (hxon m)
                  rw [hxv, hsv]
                  by_cases hroom : ls + lx ≤ Γ.sz b0
                  · have hfit : ls * i.size + (densOf Γ xs).length ≤ (densOf Γ cs0 ++ rest).toArray.size := by
                      rw [hdx, hxl, hies, List.size_toArray, List.length_append, hdc0, hq1, ← Nat.add_mul]
                      exact Nat.mul_le_mul_right _ hroom
                    have hrun := run_append_room (P := P) w t ty t0 i hu hi (Γ.id b0) ls (Γ.sz b0) _ hh ⟨Γ.id bx, (ox.I Γ.ρ).toNat, none⟩ lx (cx.den Γ bx) (densOf Γ xs) (by rw [hdx, hxl, hies]) hxc densOf_one hroom hfit
                    refine ⟨Γ.push S.n (Γ.id b0) (Γ.sz b0), _, _, hrun, ?_, ?_⟩
                    · simp only [MV.rel, MV.den, MC.den, Ctx.push, if_true, E.I, Cap.den, Int.toNat_natCast, Nat.sub_zero]; rfl
                    · have hz1 : ∀ j, j < [Blk.cells (cs ++ xs) t0 (q + 1)].length → j = 0 := fun j hj => by simpa using hj
                      have hnew : (Blk.cells (cs ++ xs) t0 (q + 1)).rel (Γ.push S.n (Γ.id b0) (Γ.sz b0)) (w.setRow (Γ.id b0) ((densOf Γ cs0 ++ rest).take (ls * i.size) ++ densOf Γ xs ++ (densOf Γ cs0 ++ rest).drop (ls * i.size + (densOf Γ xs).length)).toArray) S.n := by
                        refine ⟨((densOf Γ cs0 ++ rest).drop (ls * i.size + (densOf Γ xs).length)), ?_, fun h => absurd h (by omega), fun _ => ?_⟩
                        · rw [densOf_agree (Ctx.push_agree Γ S.n _ _ hL) hon]
                          simp only [Ctx.push, if_true]
                          rw [setRow_heap w _ _ _ _ _ hh]
                          congr 1; apply congrArg (fun a => Obj.cells a t0 (0, 0)); apply Array.toList_inj.1
                          have : (densOf Γ cs0 ++ rest).take (ls * i.size) = densOf Γ cs := by
                            rw [List.take_append_of_le_length (by rw [hdc0, hies]; exact hle), hies, hcut]
                            simp [densOf, List.map_take]
                          simp only [this]
                          simp [densOf]
                        · simp only [Ctx.push, if_true, List.length_drop, List.length_append, hdc0, hdx, hxl, hcl, hies]
                          rw [hq1, ← Nat.add_mul]
                          have : (ls + lx) * q.succ ≤ Γ.sz b0 * (q + 1) := Nat.mul_le_mul_right (q + 1) hroom
                          omega
                      exact
                        { ρ := rfl
                          id := fun j hj => by simp only [List.length_singleton] at hj; simp only [Ctx.push]; rw [if_neg (by omega)]
                          sz := fun j hj => by simp only [List.length_singleton] at hj; simp only [Ctx.push]; rw [if_neg (by omega)]
                          os := rfl, tape := rfl, output := rfl
                          size := by simp
                          keep := fun k _ hk => setRow_other w _ k _ (Ne.symm (hk (b0, .gone) (by simp)))
                          new := fun j hj => by rw [hz1 j hj]; exact hnew
                          fresh := fun j hj _ => .inr ⟨(b0, .gone), by simp, rfl, hgone, by rw [hz1 j hj]; simp [Ctx.push]⟩
                          apart := fun j j' hj hj' _ _ _ => (hz1 j hj).trans (hz1 j' hj').symm
                          upd := fun p hp => by simp at hp; subst hp; exact ⟨trivial, hgone⟩
                          once := fun p hp _ _ _ _ => by simp at hp; subst hp; rfl
                          onMv := .inr (by simp)
                          onNew := fun b hb => by simp at hb; subst hb; exact Blk.on_mono (fun j h => .inl h) hon
                          onUpd := fun p hp => by simp at hp; subst hp; trivial }
                  · have hfit := growslice_fits (need := ls + lx) (old := Γ.sz b0) (bytes := i.bytes) (by omega) (by have : (ls + lx) * i.bytes ≤ 1000 * 1000000 := Nat.mul_le_mul (by omega) hby; omega)
                    have hrun := run_append_grow (P := P) w t ty t0 i zv hu hi hiz ⟨Γ.id b0, 0, none⟩ ls (Γ.sz b0) (densOf Γ cs) (by rw [hdc, hcl, hies]) hcc ⟨Γ.id bx, (ox.I Γ.ρ).toNat, none⟩ lx (cx.den Γ bx) (densOf Γ xs) (by rw [hdx, hxl, hies]) hxc (by omega) (by omega) hfit
                    have hg0 := hgc (Γ.sz b0)
                    refine ⟨Γ.push S.n w.heap.size (grownCap w (ls + lx) (Γ.sz b0) t0), _, _, hrun, ?_, Step.make rfl rfl rfl rfl ⟨(Builtin.zeroCells zv.cells (grownCap w (ls + lx) (Γ.sz b0) t0 - (ls + lx))).toList, ?_, fun h => absurd h (by omega), fun _ => ?_⟩ hon (.inr rfl) (fun p hp => by simp at hp; subst hp; exact ⟨rfl, hgone⟩)⟩
                    · simp only [MV.rel, MV.den, MC.den, Ctx.push, if_true, E.I, Cap.den, Int.toNat_natCast, Nat.sub_zero]; rfl
                    · rw [densOf_agree (Ctx.push_agree Γ S.n w.heap.size _ hL) hon]
                      simp only [Ctx.push, if_true]
                      rw [show w.heap.size = w.drew.heap.size from rfl, heap_alloc_new]
                      congr 1; apply congrArg (fun a => Obj.cells a t0 (0, 0)); apply Array.toList_inj.1; simp [densOf]
                    · simp only [Ctx.push, if_true, Array.length_toList, size_zeroCells, hzs, List.length_append, hcl, hxl]
                      rw [← Nat.add_mul, ← Nat.add_mul]; congr 1; omega
              · cases h
            · cases h
          · cases h
      · cases h
    · cases h
  · cases h
theorem updsG_spec {Γ : Ctx} {ks : List IntKind} {o : E} {N : Nat} (ho : o.I Γ.ρ = N) : ∀ (xs : List MC) (i0 : Nat) (x y' : E), updsG o x i0 xs = some y' → kindsR ks i0 xs = true →
    (∀ j, j < N + i0 ∨ N + i0 + xs.length ≤ j → y'.A Γ.ρ j = x.A Γ.ρ j) ∧ ∀ j, j < xs.length → (densOf Γ xs)[j]? = some (.int (ks.getD ((i0 + j) % ks.length) .u8) (y'.A Γ.ρ (N + i0 + j)))
  | [], i0, x, y', h, _ => by
    simp only [updsG, Option.some.injEq] at h
    subst h
    exact ⟨fun _ _ => rfl, fun j hj => absurd hj (by simp)⟩
  | .int k e :: l, i0, x, y', h, hk => by
    simp only [updsG] at h
    simp only [kindsR, Bool.and_eq_true] at hk
    obtain ⟨h1, h2⟩ := updsG_spec ho l (i0 + 1) _ y' h hk.2
    have hp : ((mkAdd o (.lit i0)).I Γ.ρ).toNat = N + i0 := by rw [mkAdd_I, ho]; simp only [E.I]; omega
    have hx : ∀ j, (E.upd x (mkAdd o (.lit i0)) e).A Γ.ρ j = if j = N + i0 then e.I Γ.ρ else x.A Γ.ρ j := fun j => by
      show (if j = ((mkAdd o (.lit i0)).I Γ.ρ).toNat then _ else _) = _
      rw [hp]
    refine ⟨fun j hj => ?_, fun j hj => ?_⟩
    · simp only [List.length_cons] at hj
      rw [h1 j (by omega), hx, if_neg (by omega)]
    · cases j with
      | zero =>
        have h0 := h1 (N + i0) (.inl (by omega))
        rw [hx, if_pos rfl] at h0
        rw [Nat.add_zero, Nat.add_zero, h0, ← kbeq_eq hk.1]
        rfl
      | succ j =>
        have := h2 j (by simp only [List.length_cons] at hj; omega)
        rw [show i0 + (j + 1) = i0 + 1 + j from by omega, show N + i0 + (j + 1) = N + (i0 + 1) + j from by omega, ← this]
        rfl
  | .bool _ :: _, _, _, _, h, _ => by simp [updsG] at h
  | .str _ :: _, _, _, _, h, _ => by simp [updsG] at h
  | .sv _ :: _, _, _, _, h, _ => by simp [updsG] at h
  | .ptr _ _ :: _, _, _, _, h, _ => by simp [updsG] at h
  | .nilp :: _, _, _, _, h, _ => by simp [updsG] at h
  | .slice _ _ _ _ :: _, _, _, _, h, _ => by simp [updsG] at h
  | .nils :: _, _, _, _, h, _ => by simp [updsG] at h
  | .fn _ _ :: _, _, _, _, h, _ => by simp [updsG] at h
  | .nilf :: _, _, _, _, h, _ => by simp [updsG] at h
  | .emp _ _ _ _ :: _, _, _, _, h, _ => by simp [updsG] at h
theorem mulN_I (ρ : Val) (e : E) (s : Nat) : (mulN e s).I ρ = e.I ρ * s := by
  unfold mulN
  split
  · omega
  · rfl
theorem appendR_sound {P : Program} {bs : Bds} {fs : Facts} {t u ty : Nat} {s x : MV} {S : St} {r : Res} {Γ : Ctx} {L : Nat → Prop} {w : World} {sv xv : Value}
    (h : appendR P bs fs t u s x S = .ok r) (hs : s.rel Γ sv) (hso : s.on L) (hx : x.rel Γ xv) (hS : S.rel Γ L w) (hL : ∀ j, L j → j < S.n) (hb : bs.hold Γ.ρ) (hf : fs.hold Γ.ρ) :
    RanV P Γ L S r w (Builtin.append_ #[t, u] ty #[sv, xv]) := by
  unfold appendR at h
  split at h
  · rename_i b0 len
    split at h
    · rename_i y ks n t' wr el hB hu
      split at h
      · rename_i q z lx xs top hsz hz hxs htop
        split at h
        · rename_i y' hy'
          split at h
          · rename_i hc
            simp only [Bool.and_eq_true, decide_eq_true_iff] at hc
            obtain ⟨c1, c2, c3, c4, c5, c6, c7, c8, c9, c10⟩ := hc
            have hut := Nat.eq_of_beq_eq_true c1
            subst hut
            have hwr := Nat.eq_of_beq_eq_true c2
            subst hwr
            have ht' := Nat.eq_of_beq_eq_true c3
            subst ht'
            have hzl := Nat.eq_of_beq_eq_true c4
            have hn := E.eq_of c5
            have hl0 := geZero_spec hb hf c6
            have hlt := (bnd_has hb hf len).2 top htop
            have hks := Nat.eq_of_beq_eq_true c9
            cases h
            obtain ⟨i, zv, hi, hiz, hzc⟩ := zeroM_info hz
            obtain ⟨ie, hie, hies⟩ := szB_info hsz
            rw [hi, Option.some.injEq] at hie
            subst hie
            rw [bytesB_info hi] at c7
            obtain ⟨hxon, hxs⟩ := slCells_spec hxs hx hS
            rcases hxs with ⟨_, _, h3, _⟩ | ⟨bx, ox, cx, sx, csx, tx, qx, _, hxv, hsx, hxl, _, _, _, hxc⟩
            · cases h3
            rw [hsx, Option.some.injEq] at hsz
            subst hsz
            obtain ⟨ls, hls⟩ : ∃ ls : Nat, len.I Γ.ρ = ls := ⟨(len.I Γ.ρ).toNat, by omega⟩
            have hsv := MV.rel_c hs
            simp only [MC.den, E.I, Int.toNat_zero, hls, Int.toNat_natCast, Cap.den, Nat.sub_zero] at hsv
            have hgone : ¬ (S.get b0).Gone := by rw [hB]; simp [Blk.Gone]
            have hrel := hS.rel b0
            rw [hB] at hrel
            obtain ⟨cs, fr, la, lm, tt', hh, hla, hlm, hsize, hcs, _, hw, hq1⟩ := hrel
            obtain ⟨hfr, htt⟩ := hw (by omega)
            obtain ⟨hcsz, ha0⟩ := hq1 (q + 1) (by omega)
            have htt := htt.symm
            subst hfr htt ha0
            have hlm' : lm = ls * (q + 1) := by
              rw [hn, mulN_I, hls] at hlm
              have h2 : ((ls * (q + 1) : Nat) : Int) = (ls : Int) * ((q + 1 : Nat) : Int) := Int.natCast_mul _ _
              omega
            simp only [List.length_nil, Nat.zero_add, Nat.add_zero] at hsize hcs
            have hno : n.I Γ.ρ = lm := hlm.symm
            obtain ⟨u1, u2⟩ := updsG_spec (Γ := Γ) (ks := ks) hno xs 0 y y' hy' c10
            simp only [Nat.add_zero, Nat.zero_add] at u1 u2
            have hdx := densOf_length Γ xs
            have hzs : zv.cells.size = q + 1 := by rw [hzc Γ]; simp [densOf_length, hzl]
            have hle : ls ≤ Γ.sz b0 := by
              rw [hcsz, hlm'] at hsize
              exact Nat.le_of_mul_le_mul_right hsize (by omega)
            have hby : (ls + (lx + 1)) * i.bytes ≤ 140737488355328 := by
              have h1 : ((ls + (lx + 1) : Nat) : Int) * (i.bytes : Int) ≤ (top + ((lx + 1 : Nat) : Int)) * (i.bytes : Int) := Int.mul_le_mul_of_nonneg_right (by omega) (by omega)
              have h2 : (((ls + (lx + 1)) * i.bytes : Nat) : Int) = ((ls + (lx + 1) : Nat) : Int) * (i.bytes : Int) := Int.natCast_mul _ _
              omega
            have hsum : ls * (q + 1) + (lx + 1) * (q + 1) = (ls + (lx + 1)) * (q + 1) := (Nat.add_mul _ _ _).symm
            -- what stands in the row behind it
            have row : ∀ (front : List Value), front.length = lm → (∀ j, j < lm → front[j]? = some (.int (ks.getD (j % ks.length) .u8) (y.A Γ.ρ j))) → ∀ (back : List Value) (g : Nat) (w1 : World), (front ++ densOf Γ xs ++ back).length = g * (q + 1) → ls + (lx + 1) ≤ g →
                ∀ id, w1.heap[id]? = some (.cells (front ++ densOf Γ xs ++ back).toArray t' (0, 0)) →
                (Blk.arr y' ks (.lit 0) (mulN (mkAdd len (.lit (lx + 1 : Nat))) (q + 1)) t' (q + 3) []).rel (Γ.push S.n id g) w1 S.n := fun front hfl hfc back g w1 hlen hg id hw1 => by
              refine ⟨(front ++ densOf Γ xs ++ back).toArray, (0, 0), 0, lm + xs.length, t', ?_, ?_, ?_, ?_, ?_, ?_, fun _ => ⟨rfl, rfl⟩, fun q' hq' => ?_⟩
              · simp only [Ctx.push, if_true]; exact hw1
              · simp [E.I]
              · show ((lm + xs.length : Nat) : Int) = (mulN (mkAdd len (.lit (lx + 1 : Nat))) (q + 1)).I Γ.ρ
                rw [mulN_I, mkAdd_I, hls]
                simp only [E.I]
                rw [hxl, hlm', hsum, ← Int.natCast_add, ← Int.natCast_mul]
              · simp only [List.length_nil, List.size_toArray, List.length_append, hfl, hdx]; omega
              · intro j hj
                rw [Nat.zero_add, List.getElem?_toArray]
                show _ = some (Value.int (ks.getD (j % ks.length) .u8) (y'.A Γ.ρ j))
                by_cases hjl : j < lm
                · rw [List.append_assoc, List.getElem?_append_left (by omega), hfc j hjl, u1 j (.inl hjl)]
                · rw [List.append_assoc, List.getElem?_append_right (by omega), hfl, List.getElem?_append_left (by omega)]
                  have := u2 (j - lm) (by omega)
                  rw [this, show lm + (j - lm) = j from by omega]
                  have hm : lm % ks.length = 0 := by
                    rw [hlm', Nat.mul_mod, hks, Nat.mul_zero, Nat.zero_mod]
                  have h4 : j % ks.length = (j - lm) % ks.length := by
                    have h3 : (lm + (j - lm)) % ks.length = (j - lm) % ks.length := by rw [Nat.add_mod, hm, Nat.zero_add, Nat.mod_mod]
                    rwa [show lm + (j - lm) = j from by omega] at h3
                  rw [h4]
              · intro j v hv; simp [densOf] at hv
              · simp only [Ctx.push, if_true]
                have hq2 : q' = q + 1 := by omega
                subst hq2
                exact ⟨by simpa using hlen, trivial⟩
            have hcc : ∀ j v, ((cs.toList.take lm)[j]?) = some v → w.cell? ((⟨Γ.id b0, 0, none⟩ : Addr).add j) = some v := fun j v hv => by
              rw [Addr.add_mid, cell_of_block hh, Nat.zero_add]
              have hj : j < lm := by have := (List.getElem?_eq_some_iff.1 hv).1; rw [List.length_take] at this; omega
              rw [List.getElem?_take, if_pos hj] at hv
              simpa using hv
            have hfl : (cs.toList.take lm).length = lm := by rw [List.length_take, Array.length_toList]; omega
            have hfc : ∀ j, j < lm → (cs.toList.take lm)[j]? = some (.int (ks.getD (j % ks.length) .u8) (y.A Γ.ρ j)) := fun j hj => by
              rw [List.getElem?_take, if_pos hj, Array.getElem?_toList]; exact hcs j hj
            have hmv : ∀ id g, (MV.c (.slice S.n (.lit 0) (mkAdd len (.lit (lx + 1 : Nat))) (.opn 0))).rel (Γ.push S.n id g) (.slice (some ⟨id, 0, none⟩) (ls + (lx + 1)) g) := fun id g => by
              have : ((mkAdd len (.lit (lx + 1 : Nat))).I Γ.ρ).toNat = ls + (lx + 1) := by rw [mkAdd_I, hls]; simp only [E.I]; omega
              simp only [MV.rel, MV.den, MC.den, Ctx.push, if_true, E.I, Cap.den, this, Int.toNat_zero, Nat.sub_zero]
            rw [hxv, hsv]
            by_cases hroom : ls + (lx + 1) ≤ Γ.sz b0
            · have hfit : ls * i.size + (densOf Γ xs).length ≤ cs.size := by
                rw [hdx, hxl, hies, hcsz, hsum]
                exact Nat.mul_le_mul_right _ hroom
              have hrun := run_append_room (P := P) w t ty t' i hu hi (Γ.id b0) ls (Γ.sz b0) cs hh ⟨Γ.id bx, (ox.I Γ.ρ).toNat, none⟩ (lx + 1) (cx.den Γ bx) (densOf Γ xs) (by rw [hdx, hxl, hies]) hxc densOf_one hroom hfit
              rw [show ls * i.size = lm from by rw [hies, hlm']] at hrun
              refine ⟨Γ.push S.n (Γ.id b0) (Γ.sz b0), _, _, hrun, hmv _ _, ?_⟩
              have hz1 : ∀ j, j < [Blk.arr y' ks (.lit 0) (mulN (mkAdd len (.lit (lx + 1 : Nat))) (q + 1)) t' (q + 3) []].length → j = 0 := fun j hj => by simpa using hj
              have hnew := row (cs.toList.take lm) hfl hfc (cs.toList.drop (lm + (densOf Γ xs).length)) (Γ.sz b0) (w.setRow (Γ.id b0) (cs.toList.take lm ++ densOf Γ xs ++ cs.toList.drop (lm + (densOf Γ xs).length)).toArray) (by
                have hcl : cs.toList.length = Γ.sz b0 * (q + 1) := hcsz
                rw [hies, hcsz, ← hlm'] at hfit
                rw [List.length_append, List.length_append, hfl, List.length_drop, hcl]
                omega) hroom (Γ.id b0) (setRow_heap w _ _ _ _ _ hh)
              exact
                { ρ := rfl
                  id := fun j hj => by simp only [List.length_singleton] at hj; simp only [Ctx.push]; rw [if_neg (by omega)]
                  sz := fun j hj => by simp only [List.length_singleton] at hj; simp only [Ctx.push]; rw [if_neg (by omega)]
                  os := rfl, tape := rfl, output := rfl
                  size := by simp
                  keep := fun k _ hk => setRow_other w _ k _ (Ne.symm (hk (b0, .gone) (by simp)))
                  new := fun j hj => by rw [hz1 j hj]; exact hnew
                  fresh := fun j hj _ => .inr ⟨(b0, .gone), by simp, rfl, hgone, by rw [hz1 j hj]; simp [Ctx.push]⟩
                  apart := fun j j' hj hj' _ _ _ => (hz1 j hj).trans (hz1 j' hj').symm
                  upd := fun p hp => by simp at hp; subst hp; exact ⟨trivial, hgone⟩
                  once := fun p hp _ _ _ _ => by simp at hp; subst hp; rfl
                  onMv := .inr (by simp)
                  onNew := fun b hb => by simp at hb; subst hb; exact fun m hm => absurd hm (by simp)
                  onUpd := fun p hp => by simp at hp; subst hp; trivial }
            · have hfit := growslice_fits (need := ls + (lx + 1)) (old := Γ.sz b0) (bytes := i.bytes) (by omega) hby
              have hrun := run_append_grow (P := P) w t ty t' i zv hu hi hiz ⟨Γ.id b0, 0, none⟩ ls (Γ.sz b0) (cs.toList.take lm) (by rw [hfl, hlm', hies]) hcc ⟨Γ.id bx, (ox.I Γ.ρ).toNat, none⟩ (lx + 1) (cx.den Γ bx) (densOf Γ xs) (by rw [hdx, hxl, hies]) hxc (by omega) (by omega) hfit
              have hg0 := grownCap_ge w (ls + (lx + 1)) (Γ.sz b0) t'
              refine ⟨Γ.push S.n w.heap.size (grownCap w (ls + (lx + 1)) (Γ.sz b0) t'), _, _, hrun, hmv _ _, Step.make rfl rfl rfl rfl ?_ (fun m hm => absurd hm (by simp)) (.inr rfl) (fun p hp => by simp at hp; subst hp; exact ⟨rfl, hgone⟩)⟩
              refine row (cs.toList.take lm) hfl hfc (Builtin.zeroCells zv.cells (grownCap w (ls + (lx + 1)) (Γ.sz b0) t' - (ls + (lx + 1)))).toList _ _ (by
                rw [List.length_append, List.length_append, hfl, hdx, hxl, Array.length_toList, size_zeroCells, hzs, hlm', hsum, ← Nat.add_mul]
                congr 1; omega) hg0 _ ?_
              rw [show w.heap.size = w.drew.heap.size from rfl, heap_alloc_new]
              congr 1; apply congrArg (fun a => Obj.cells a t' (0, 0)); apply Array.toList_inj.1; simp
          · cases h
        · cases h
      · cases h
    · cases h
  · cases h
theorem appendY_sound {P : Program} {bs : Bds} {fs : Facts} {t u ty : Nat} {s x : MV} {S : St} {r : Res} {Γ : Ctx} {L : Nat → Prop} {w : World} {sv xv : Value}
    (h : appendY P bs fs t u s x S = .ok r) (hs : s.rel Γ sv) (hso : s.on L) (hx : x.rel Γ xv) (hS : S.rel Γ L w) (hL : ∀ j, L j → j < S.n) (hb : bs.hold Γ.ρ) (hf : fs.hold Γ.ρ) :
    RanV P Γ L S r w (Builtin.append_ #[t, u] ty #[sv, xv]) := by
  unfold appendY at h
  split at h
  · rename_i hr
    cases h
    exact appendR_sound hr hs hso hx hS hL hb hf
  · exact appendM_sound h hs hso hx hS hL
theorem appendX_sound {P : Program} {bs : Bds} {fs : Facts} {t u ty : Nat} {s x : MV} {S : St} {r : Res} {Γ : Ctx} {L : Nat → Prop} {w : World} {sv xv : Value}
    (h : appendX P bs fs t u s x S = .ok r) (hs : s.rel Γ sv) (hso : s.on L) (hx : x.rel Γ xv) (hS : S.rel Γ L w) (hL : ∀ j, L j → j < S.n) (hb : bs.hold Γ.ρ) (hf : fs.hold Γ.ρ) :
    RanV P Γ L S r w (Builtin.append_ #[t, u] ty #[sv, xv]) := by
  unfold appendX at h
  split at h
  · rename_i b o len cx
    split at h
    · rename_i y ks lo n tt wr tl hB
      split at h
      · rename_i el hu
        split at h
        · rename_i q z top hsz hz htop
          obtain ⟨i, zv, hi, hiz, hzc⟩ := zeroM_info hz
          obtain ⟨ie, hie, hies⟩ := szB_info hsz
          rw [hi, Option.some.injEq] at hie
          subst hie
          split at h
          · rename_i hc
            simp only [Bool.and_eq_true, decide_eq_true_iff] at hc
            obtain ⟨c1, c2, c3, c4, c5, c6, c7, c8⟩ := hc
            have hut := Nat.eq_of_beq_eq_true c2
            subst hut
            have hzl := Nat.eq_of_beq_eq_true c3
            have ho := E.eq_of c4
            subst ho
            have hn := E.eq_of c5
            have hl0 := geZero_spec hb hf c6
            have hlt := (bnd_has hb hf len).2 top htop
            rw [bytesB_info hi] at c7
            have hx := MV.rel_c hx
            subst hx
            have hsv : sv = .slice none 0 0 ∨ ∃ a, sv = .slice (some a) 0 0 := by
              unfold bare at c1
              split at c1
              · exact .inl (MV.rel_c hs)
              · exact .inr ⟨_, MV.rel_c hs⟩
              · cases c1
            have heq := mkEq_T hb hf len (.lit 0)
            split at h
            · rename_i hbl
              have h := R.v_ok h
              subst h
              rw [hbl] at heq
              have e : len.I Γ.ρ = 0 := by simpa [E.T, E.I] using heq.symm
              have hxv : ∃ a k, MC.den Γ (.slice b o len cx) = .slice a 0 k := ⟨_, _, by simp only [MC.den, e]; rfl⟩
              rcases hsv with rfl | ⟨a, rfl⟩
              · exact RanV.pure (run_append_zero w t ty el i hu hi none 0 0 (Nat.le_refl _) _ hxv) hs hso
              · exact RanV.pure (run_append_zero w t ty el i hu hi (some a) 0 0 (Nat.le_refl _) _ hxv) hs hso
            · rename_i hbl
              cases h
              rw [hbl] at heq
              have e : len.I Γ.ρ ≠ 0 := by simpa [E.T, E.I] using heq.symm
              obtain ⟨m, hm⟩ : ∃ m : Nat, len.I Γ.ρ = m := ⟨(len.I Γ.ρ).toNat, by omega⟩
              have hrel := hS.rel b
              rw [hB] at hrel
              obtain ⟨cs, fr, la, lm, tt', hh, hla, hlm, hsize, hcs, _⟩ := hrel
              have hlm' : lm = m * (q + 1) := by
                rw [hn, mkMul_I, hm] at hlm
                simp only [E.I] at hlm
                have h2 : ((m * (q + 1) : Nat) : Int) = (m : Int) * ((q + 1 : Nat) : Int) := Int.natCast_mul _ _
                omega
              let news : List Value := (List.range lm).map fun j => .int (ks.getD (j % ks.length) .u8) (y.A Γ.ρ j)
              have hnl : news.length = m * i.size := by simp [news, hlm', hies]
              have hnews : ∀ j u, news[j]? = some u → w.cell? ((⟨Γ.id b, la, none⟩ : Addr).add j) = some u := fun j u hju => by
                have hj : j < lm := by have := (List.getElem?_eq_some_iff.1 hju).1; simpa [news] using this
                rw [Addr.add_mid, cell_of_block hh, hcs j hj]
                simp only [news, List.getElem?_map, List.getElem?_range hj, Option.map_some] at hju
                exact hju
              have hzs : zv.cells.size = q + 1 := by rw [hzc Γ]; simp [densOf_length, hzl]
              have hmt : (m : Int) ≤ top := by omega
              have h63 : (m : Int) ≤ 9223372036854775807 := by omega
              have hby : m * i.bytes ≤ 140737488355328 := by
                have h1 : (m : Int) * (i.bytes : Int) ≤ top * (i.bytes : Int) := Int.mul_le_mul_of_nonneg_right hmt (by omega)
                have h2 : ((m * i.bytes : Nat) : Int) = (m : Int) * (i.bytes : Int) := Int.natCast_mul _ _
                omega
              have hla' : (o.I Γ.ρ).toNat = la := by omega
              have fin : ∀ (g : Nat) (w1 : World), m ≤ g → w1.heap = (w.drew.alloc (.cells (news.toArray ++ Builtin.zeroCells zv.cells (g - m)) el)).heap →
                  (Blk.arr y ks (.lit 0) n el (q + 3) []).rel (Γ.push S.n w.heap.size g) w1 S.n := fun g w1 hg hw1 => by
                refine ⟨news.toArray ++ Builtin.zeroCells zv.cells (g - m), (0, 0), 0, lm, el, ?_, ?_, ?_, ?_, ?_, ?_, fun _ => ⟨rfl, rfl⟩, fun q' hq' => ?_⟩
                · simp only [Ctx.push, if_true, hw1]
                  rw [show w.heap.size = w.drew.heap.size from rfl, heap_alloc_new]
                · simp [E.I]
                · exact hlm
                · simp [news, size_zeroCells]
                · intro j hj
                  rw [Nat.zero_add, Array.getElem?_append_left (by simp [news]; omega)]
                  simp [news, hj, Ctx.push]
                · intro j v hv; simp [densOf] at hv
                · simp only [Ctx.push, if_true]
                  refine ⟨?_, trivial⟩
                  have hq2 : q' = q + 1 := by omega
                  subst hq2
                  simp only [Array.size_append, List.size_toArray, size_zeroCells, hzs, hnl, hies, ← Nat.add_mul]
                  congr 1; omega
              have hxe : MC.den Γ (.slice b o len cx) = .slice (some ⟨Γ.id b, la, none⟩) m (cx.den Γ b) := by simp only [MC.den, hla', hm, Int.toNat_natCast]
              rw [hxe]
              rcases hsv with rfl | ⟨a, rfl⟩
              · have hrun := run_append_nil (P := P) w t ty el i zv hu hi hiz ⟨Γ.id b, la, none⟩ m (cx.den Γ b) news hnl hnews (by omega) h63 (by omega)
                refine ⟨Γ.push S.n w.heap.size (grownCap w m 0 el), _, _, hrun, ?_, Step.make rfl rfl rfl rfl (fin _ _ (grownCap_ge w m 0 el) rfl) (fun m hm => absurd hm (by simp)) (.inr rfl) (fun p hp => absurd hp (by simp))⟩
                simp only [MV.rel, MV.den, MC.den, Ctx.push, if_true, E.I, Cap.den, hm, Int.toNat_natCast, Nat.sub_zero]; rfl
              · have hfit := growslice_fits (need := 0 + m) (old := 0) (bytes := i.bytes) (by omega) (by rw [Nat.zero_add]; omega)
                have hrun := run_append_grow (P := P) w t ty el i zv hu hi hiz a 0 0 [] (by simp) (fun j v hv => by simp at hv) ⟨Γ.id b, la, none⟩ m (cx.den Γ b) news hnl hnews (by omega) (by omega) hfit
                simp only [Nat.zero_add] at hrun
                refine ⟨Γ.push S.n w.heap.size (grownCap w m 0 el), _, _, hrun, ?_, Step.make rfl rfl rfl rfl (fin _ _ (grownCap_ge w m 0 el) (by simp)) (fun m hm => absurd hm (by simp)) (.inr rfl) (fun p hp => absurd hp (by simp))⟩
                simp only [MV.rel, MV.den, MC.den, Ctx.push, if_true, E.I, Cap.den, hm, Int.toNat_natCast, Nat.sub_zero]; rfl
            · cases h
          · cases h
        · cases h
      · cases h
    · split at h
      · rename_i hc
        simp only [Bool.and_eq_true] at hc
        obtain ⟨c1, c2, c3⟩ := hc
        have hut := Nat.eq_of_beq_eq_true c2
        subst hut
        have hl := E.eq_of c3
        subst hl
        have hx := MV.rel_c hx
        subst hx
        split at h
        · rename_i el hu
          split at h
          · rename_i sz hsz
            have h := R.v_ok h
            subst h
            obtain ⟨i, hi, _⟩ := szB_info hsz
            have hxv : ∀ cx, ∃ a k, MC.den Γ (.slice b o (.lit 0) cx) = .slice a 0 k := fun cx => ⟨some ⟨Γ.id b, (o.I Γ.ρ).toNat, none⟩, cx.den Γ b, rfl⟩
            unfold bare at c1
            split at c1
            · have hs := MV.rel_c hs
              subst hs
              exact RanV.pure (run_append_zero w t ty el i hu hi none 0 0 (Nat.le_refl _) _ (hxv _)) rfl hso
            · have hs := MV.rel_c hs
              subst hs
              exact RanV.pure (run_append_zero w t ty el i hu hi (some _) 0 0 (Nat.le_refl _) _ (hxv _)) rfl hso
            · cases c1
          · cases h
        · cases h
      · exact appendY_sound h hs hso hx hS hL hb hf
  · exact appendM_sound h hs hso hx hS hL
end Sx
end Go.Proofs.Ytigblagodlfedaa
