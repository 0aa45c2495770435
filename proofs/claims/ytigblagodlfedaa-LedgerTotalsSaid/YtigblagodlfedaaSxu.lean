/- The symbolic run is sound: regions that draw their order, code, calls. -/
import Derived.Test.YtigblagodlfedaaSxt
namespace Go.Proofs.Ytigblagodlfedaa
namespace Sx
open Go.RowKit

theorem Blk.rel_world {Γ : Ctx} {w w' : World} {j : Nat} {b : Blk} (hw : w'.heap = w.heap) (h : b.rel Γ w j) : b.rel Γ w' j := by
  cases b with
  | gone => trivial
  | cells cs t q => obtain ⟨rest, h1, h2⟩ := h; exact ⟨rest, by rw [hw]; exact h1, h2⟩
  | arr x ks lo n t wr tl => obtain ⟨cs, fr, a, m, tt, h1, h2⟩ := h; exact ⟨cs, fr, a, m, tt, by rw [hw]; exact h1, h2⟩
theorem drawn_soundW {P : Program} {bs : Bds} {keep : Bool} (hm : P.follows .mixedOrders = true) {call : Callee} (hcall : Callee.Sound P bs call) (hsure : Callee.Sure bs call) {id : Nat} {ops : Array Oper} {L0 : Nat → Prop} {Γ0 : Ctx} {S0 : St} {w0 : World} {Q : Exit → Act → World → Prop}
    (next : Leaf → Tr) (hb : bs.hold Γ0.ρ) {Γ : Ctx} {a : Act} {w : World}
    (hnext : ∀ l : Leaf, l.ex = .normal → At L0 Γ0 S0 w0 Γ l a w → (next l).ok Γ0.ρ → Ends L0 Γ0 S0 w0 (next l) Q → (Code.region id ops true).wp P Q a w) {l : Leaf}
    (hex : l.ex = .normal) (hat : At L0 Γ0 S0 w0 Γ l a w) (hok : (regionW P bs call keep true ops.toList next l).ok Γ0.ρ) (hend : Ends L0 Γ0 S0 w0 (regionW P bs call keep true ops.toList next l) Q) : (Code.region id ops true).wp P Q a w := by
  have hρ := hat.far.ρ
  have hf0 : l.fs.hold Γ0.ρ := by rw [← hρ]; exact hat.fs
  obtain ⟨lg, l', tr, hf', hran, hl⟩ := runOps_trace hsure hb 500 ops.toList l [] hf0 hok
  simp only [List.append_nil, List.reverse_reverse] at hl
  have hl1 := hl.1 hok
  split at hl1
  · rename_i hc
    refine wp_region_any hm ?_
    rw [if_pos hc] at hl
    simp only [Bool.and_eq_true] at hc
    obtain ⟨hback, hap, hck⟩ := hc
    have hend' := Ends.of_leads hl hend
    have hlen : ops.toList.length = ops.size := by simp
    have hN := hat.fr.lt
    have hX0 : ∀ i, (Array.replicate ops.size false).getD i false = false := fun i => by
      rcases Nat.lt_or_ge i ops.size with h | h
      · simp [h]
      · simp [h]
    have hcur : ∀ x, cur l.S lg (fun i => (Array.replicate ops.size false).getD i false) x = .gone ∨ cur l.S lg (fun i => (Array.replicate ops.size false).getD i false) x = l.S.get x := fun x => by
      have hbase : baseX l.S lg (fun i => (Array.replicate ops.size false).getD i false) x = .gone ∨ baseX l.S lg (fun i => (Array.replicate ops.size false).getD i false) x = l.S.get x := by
        unfold baseX
        split
        · exact .inr rfl
        · split
          · rw [if_neg (by show ¬ (Array.replicate ops.size false).getD _ false = true; rw [hX0]; simp)]; exact .inl rfl
          · exact .inl rfl
      unfold cur
      split
      · exact hbase
      · rw [if_neg (by show ¬ (Array.replicate ops.size false).getD _ false = true; rw [hX0]; simp)]; exact hbase
      · exact .inl rfl
    have hng : ∀ x, ¬ (cur l.S lg (fun i => (Array.replicate ops.size false).getD i false) x).Gone → cur l.S lg (fun i => (Array.replicate ops.size false).getD i false) x = l.S.get x := fun x hx => (hcur x).resolve_left hx
    have hstart : DI ops.toList lg l l'.d L0 Γ0 S0 w0 (fun i => (Array.replicate ops.size false).getD i false) Γ a { w with drawn := w.drawn + 1 } :=
      { lt := hat.lt, n := hat.far.n
        br :=
          { rel := fun x => by
              rcases hcur x with h | h
              · rw [h]; trivial
              · rw [h]; exact Blk.rel_world rfl (hat.S.rel x)
            on := fun x => by
              rcases hcur x with h | h
              · rw [h]; trivial
              · rw [h]; exact Blk.on_mono (fun y hy => .inl hy) (hat.S.on x)
            live := fun x hx => by have h := hng x hx; rw [h] at hx; exact .inl (hat.S.live x hx)
            inj := fun x y hx hy hxy => by
              have h1 := hng x hx; have h2 := hng y hy
              rw [h1] at hx; rw [h2] at hy
              exact hat.S.inj x y hx hy hxy }
        far :=
          { ρ := hρ, id := hat.far.id, sz := hat.far.sz, os := hat.far.os, tape := hat.far.tape, output := hat.far.output, size := hat.far.size
            keep := fun k hk hj => hat.far.keep k hk fun x hx => hj x (tr.d.1 x hx)
            fresh := fun x hx hg => by
              have h := hng x hg
              rw [h] at hg
              rcases hat.far.fresh x hx hg with h1 | ⟨p, h1, h2⟩
              · exact .inl h1
              · exact .inr ⟨p, tr.d.1 p h1, h2⟩
            gone := fun x hx hg => by have h := hng x hg; rw [h] at hg; exact hat.far.gone x hx hg }
        defers := hat.fr.defers, size := hat.fr.size
        slot0 := fun t _ => hat.fr.rel t
        slot1 := fun i o g t _ _ hX _ => by simp [hX0] at hX
        fron := hat.fr.on, son := hat.S.on
        made := fun i g _ hX => by simp [hX0] at hX
        closed := fun j o _ hX => by simp [hX0] at hX
        sgone := fun x hx => Classical.byContradiction fun hg => absurd (Sc.lt hat.lt hat.far.n x (hat.S.live x hg)) (by omega) }
    have hany := drawn_any (Q := Q) hcall hb tr hran hN tr.d.2 (apartB'_spec hap) (fun j o ho e he hb => by have := backB_spec hback j o ho e he hb; omega)
      (fun j o g ho hg => by have := checkAll_get hck j o g ho hg; rwa [Nat.zero_add] at this) (fun X Γ a w hall h => ?_) ops.size (Array.replicate ops.size false) Γ a { w with drawn := w.drawn + 1 } (by simp) ?_ hstart
    · simpa using hany
    · -- all are done
      have hex' : l'.ex = .normal := tr.same.2.trans hex
      have hallX : ∀ (i : Nat) (g : Log), lg[i]? = some g → X i = true := fun i g hg => by
        obtain ⟨o, ho⟩ := op_of_lg tr hg
        exact hall i (List.getElem?_eq_some_iff.1 ho).1
      have hnn : l.S.n ≤ l'.S.n := tr.n.1
      have hup : ∀ (i : Nat) (g : Log), lg[i]? = some g → ∀ p ∈ g.r.upd, p.1 < g.n := fun i g hg p hp => ((h.made i g hg (hallX i g hg)).2.2 p hp).2.1
      have hlx : ∀ y, LX (Sc L0 S0.n l.S.n) lg X y → Sc L0 S0.n l'.S.n y := fun y hy => by
        rcases hy with hy | ⟨i, g, h1, _, h3, h4⟩
        · exact Sc.mono hnn y hy
        · have h5 := tr.n.2.1 i g h1
          have := h.n
          exact .inr ⟨by omega, by omega⟩
      have hS : ∀ x, l'.S.get x = .gone ∨ l'.S.get x = cur l.S lg X x := fun x => by
        rcases tr.S hup x 0 with ⟨t, h1, h2⟩ | ⟨h1, h2⟩ | h1
        · right
          obtain ⟨i, g, h3, h4, h5⟩ := turnersOf_mem h1
          have h6 := ((h.made i g h3 (hallX i g h3)).2.2 _ (turned_some h5)).2.2.2
          unfold cur
          split
          · rename_i ht; rw [ht] at h1; simp at h1
          · rename_i t' m ht
            rw [ht] at h1
            simp only [List.mem_singleton] at h1
            subst h1
            have hti : t' = i := by simpa using h4
            rw [if_pos (by rw [hti]; exact hallX i g h3)]
            exact h2
          · rename_i h7 h8
            exfalso
            simp only at h6
            rcases hq : turnersOf x lg 0 with _ | ⟨q, _ | ⟨q2, r⟩⟩
            · exact h7 hq
            · exact h8 q.1 q.2 (by rw [hq])
            · rw [hq] at h6; simp at h6
        · unfold cur
          rw [h1]
          simp only
          unfold baseX
          rcases h2 with ⟨t, h3, h4⟩ | ⟨h3, h4⟩
          · obtain ⟨i, g, h5, h6, h7, _, _⟩ := makerOf_some h3
            have h8 := (tr.n.2.1 i g h5).1
            rw [if_neg (by omega), h3]
            have hti : t.1 = i := by simpa using h6
            right
            show l'.S.get x = if X t.1 = true then t.2 else .gone
            rw [if_pos (by rw [hti]; exact hallX i g h5)]
            exact h4
          · by_cases hx : x < l.S.n
            · rw [if_pos hx]; exact .inr h4
            · left
              rw [h4]
              by_cases hg : (l.S.get x).Gone
              · exact hg
              · exact absurd (Sc.lt h.lt h.n x (hat.S.live x hg)) hx
        · exact .inl h1
      have hng' : ∀ x, ¬ (l'.S.get x).Gone → l'.S.get x = cur l.S lg X x := fun x hx => (hS x).resolve_left hx
      have hAt : At L0 Γ0 S0 w0 Γ l' a w := by
        refine ⟨h.lt, ⟨h.defers, by rw [tr.same.1]; exact h.size, by rw [tr.same.1]; exact hN, fun t => ?_, fun t => ?_⟩, ⟨fun x => ?_, fun x => ?_, fun x hx => ?_, fun x y hx hy hxy => ?_⟩, by rw [h.far.ρ]; exact hf',
          { ρ := h.far.ρ, n := Nat.le_trans h.n hnn, id := h.far.id, sz := h.far.sz, os := h.far.os, tape := h.far.tape, output := h.far.output, size := h.far.size, keep := h.far.keep
            fresh := fun x hx hg => by have e := hng' x hg; rw [e] at hg; exact h.far.fresh x hx hg
            gone := fun x hx hg => by have e := hng' x hg; rw [e] at hg; exact h.far.gone x hx hg }⟩
        · rcases tr.fr hN t with ⟨i, o, g, h1, h2, h3, h4⟩ | ⟨h1, h2⟩
          · rw [h4]; exact h.slot1 i o g t h1 h2 (hallX i g h2) h3
          · rw [h2]; exact h.slot0 t fun i o ho _ => h1 i o ho
        · rcases tr.fr hN t with ⟨i, o, g, h1, h2, h3, h4⟩ | ⟨h1, h2⟩
          · rw [h4]; exact MV.on_mono (fun y hy => hlx y hy.1) (h.made i g h2 (hallX i g h2)).1
          · rw [h2]; exact MV.on_mono (fun y hy => hlx y (.inl hy)) (h.fron t)
        · rcases hS x with e | e
          · rw [e]; trivial
          · rw [e]; exact h.br.rel x
        · rcases hS x with e | e
          · rw [e]; trivial
          · rw [e]; exact Blk.on_mono hlx (h.br.on x)
        · have e := hng' x hx
          rw [e] at hx
          exact hlx x (h.br.live x hx)
        · have e1 := hng' x hx; have e2 := hng' y hy
          rw [e1] at hx; rw [e2] at hy
          exact h.br.inj x y hx hy hxy
      have := hend' l' Γ a w rfl hAt
      rw [hex'] at this
      exact this
    · rw [hlen]
      have : ∀ k, cnt (Array.replicate ops.size false) k ≤ k := fun k => by
        induction k with
        | zero => exact Nat.le_refl _
        | succ k ih => simp only [cnt]; split <;> omega
      exact this _
  · rename_i hc
    rw [if_neg hc] at hl
    exact hnext { l with fs := l'.fs } hex ⟨hat.lt, hat.fr, hat.S, by rw [hρ]; exact hf', hat.far⟩ hl1 (Ends.of_leads hl hend)
theorem drawn_soundN {P : Program} {bs : Bds} {keep : Bool} (hm : P.follows .mixedOrders = true) {call : Callee} (hcall : Callee.Sound P bs call) (hsure : Callee.Sure bs call) {id : Nat} {ops : Array Oper} {L0 : Nat → Prop} {Γ0 : Ctx} {S0 : St} {w0 : World} {Q : Exit → Act → World → Prop}
    (hb : bs.hold Γ0.ρ) {Γ : Ctx} {a : Act} {w : World} : ∀ (n : Nat) (l : Leaf), l.ex = .normal → At L0 Γ0 S0 w0 Γ l a w → (regionN P bs call keep true ops.toList n l).ok Γ0.ρ → Ends L0 Γ0 S0 w0 (regionN P bs call keep true ops.toList n l) Q → (Code.region id ops true).wp P Q a w
  | 0, _, hex, hat, hok, hend => drawn_soundW hm hcall hsure (fun _ => .fail 122) hb (fun _ _ _ h _ => False.elim h) hex hat hok hend
  | n + 1, _, hex, hat, hok, hend => drawn_soundW hm hcall hsure _ hb (drawn_soundN hm hcall hsure hb n) hex hat hok hend
theorem drawn_sound {P : Program} {bs : Bds} {keep : Bool} (hm : P.follows .mixedOrders = true) : DrawnSound P bs keep :=
  fun _ hcall hsure _ _ _ _ _ _ _ l _ _ _ hb hex hat hok hend => drawn_soundN hm hcall hsure hb 2 l hex hat hok hend
/-- Code does what its tree tells. -/
theorem sound {P : Program} {E : Env} (hm : P.follows .mixedOrders = true) (hE : E.Ok P) (hsum : Callee.Sound P E.bs E.sum) (hsure : Callee.Sure E.bs E.sum) (n : Nat) : Callee.Sound P E.bs (callIn P E (ev P E n)) :=
  call_sound hE hsum (ev_ok hE hsum hsure (drawn_sound hm) n).1
end Sx
end Go.Proofs.Ytigblagodlfedaa
