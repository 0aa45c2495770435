/- The symbolic run: what its values, blocks and frames stand for. -/
import Derived.Test.YtigblagodlfedaaSxb
import Derived.WalkKit
import Derived.Deep.MidRow
namespace Go.Proofs.Ytigblagodlfedaa
namespace Sx
open Go.RowKit

/-! ### Trees -/
namespace Tri
variable {α : Type} {z : α}
theorem get_e (t : Nat) : (Tri.e : Tri α).get z t = z := rfl
theorem left_get (f : Tri α) (t : Nat) : f.left.get z t = f.get z (2 * t + 1) := by
  cases f with
  | e => rfl
  | n l v r =>
    show l.get z t = Tri.get z (.n l v r) (2 * t + 1)
    unfold Tri.get
    have h1 : 2 * t % 2 = 0 := by omega
    have h2 : 2 * t / 2 = t := by omega
    simp only [h1, h2]
    cases l <;> rfl
theorem right_get (f : Tri α) (t : Nat) : f.right.get z t = f.get z (2 * t + 2) := by
  cases f with
  | e => rfl
  | n l v r =>
    show r.get z t = Tri.get z (.n l v r) (2 * t + 2)
    unfold Tri.get
    have h1 : (2 * t + 1) % 2 = 1 := by omega
    have h2 : (2 * t + 1) / 2 = t := by omega
    simp only [h1, h2]
    cases r <;> rfl
theorem top_get (f : Tri α) : f.top z = f.get z 0 := by cases f <;> rfl
theorem get_n_zero (l r : Tri α) (v : α) : (Tri.n l v r).get z 0 = v := rfl
theorem get_n_odd (l r : Tri α) (v : α) (t : Nat) : (Tri.n l v r).get z (2 * t + 1) = l.get z t := (left_get (.n l v r) t).symm
theorem get_n_even (l r : Tri α) (v : α) (t : Nat) : (Tri.n l v r).get z (2 * t + 2) = r.get z t := (right_get (.n l v r) t).symm
theorem cases3 (u : Nat) : u = 0 ∨ (∃ t, u = 2 * t + 1) ∨ (∃ t, u = 2 * t + 2) := by
  rcases Nat.eq_zero_or_pos u with h | h
  · exact .inl h
  · rcases Nat.mod_two_eq_zero_or_one u with h2 | h2
    · exact .inr (.inr ⟨(u - 2) / 2, by omega⟩)
    · exact .inr (.inl ⟨(u - 1) / 2, by omega⟩)
theorem get_put : ∀ (d : Nat) (f : Tri α) (t : Nat) (m : α) (u : Nat), t + 1 < 2 ^ d → (f.put z d t m).get z u = if u = t then m else f.get z u
  | 0, _, t, _, _, h => by simp at h
  | d + 1, f, t, m, u, h => by
    rcases cases3 t with rfl | ⟨t, rfl⟩ | ⟨t, rfl⟩
    · show (Tri.n f.left m f.right).get z u = _
      rcases cases3 u with rfl | ⟨u, rfl⟩ | ⟨u, rfl⟩
      · simp [get_n_zero]
      · rw [get_n_odd, left_get]; simp
      · rw [get_n_even, right_get]; simp
    · have e : Tri.put z (d + 1) f (2 * t + 1) m = .n (f.left.put z d t m) (f.top z) f.right := by
        show (match (2 * t) % 2 with | 0 => Tri.n (f.left.put z d (2 * t / 2) m) (f.top z) f.right | _ => .n f.left (f.top z) (f.right.put z d (2 * t / 2) m)) = _
        have h1 : 2 * t % 2 = 0 := by omega
        have h2 : 2 * t / 2 = t := by omega
        simp only [h1, h2]
      rw [e]
      rcases cases3 u with rfl | ⟨u, rfl⟩ | ⟨u, rfl⟩
      · rw [get_n_zero, top_get]; simp
      · rw [get_n_odd, get_put d _ _ _ _ (by rw [Nat.pow_succ] at h; omega), left_get]
        by_cases hu : u = t
        · subst hu; simp
        · rw [if_neg hu, if_neg (by omega)]
      · rw [get_n_even, right_get, if_neg (by omega)]
    · have e : Tri.put z (d + 1) f (2 * t + 2) m = .n f.left (f.top z) (f.right.put z d t m) := by
        show (match (2 * t + 1) % 2 with | 0 => Tri.n (f.left.put z d ((2 * t + 1) / 2) m) (f.top z) f.right | _ => .n f.left (f.top z) (f.right.put z d ((2 * t + 1) / 2) m)) = _
        have h1 : (2 * t + 1) % 2 = 1 := by omega
        have h2 : (2 * t + 1) / 2 = t := by omega
        simp only [h1, h2]
      rw [e]
      rcases cases3 u with rfl | ⟨u, rfl⟩ | ⟨u, rfl⟩
      · rw [get_n_zero, top_get]; simp
      · rw [get_n_odd, left_get, if_neg (by omega)]
      · rw [get_n_even, get_put d _ _ _ _ (by rw [Nat.pow_succ] at h; omega), right_get]
        by_cases hu : u = t
        · subst hu; simp
        · rw [if_neg hu, if_neg (by omega)]
theorem get_set (f : Tri α) (t : Nat) (m : α) (u : Nat) (h : t < 4095) : (f.set z t m).get z u = if u = t then m else f.get z u :=
  get_put 12 f t m u (by simp; omega)
end Tri

/-! ### What values stand for -/
structure Ctx where
  ρ : Val
  id : Nat → Nat
  sz : Nat → Nat
def Cap.den (Γ : Ctx) (b : Nat) : Cap → Nat
  | .ex e => (e.I Γ.ρ).toNat
  | .opn m => Γ.sz b - m
def MC.den (Γ : Ctx) : MC → Value
  | .int k e => .int k (e.I Γ.ρ)
  | .bool e => .bool (e.T Γ.ρ)
  | .str s => .string s
  | .sv i => .string (Γ.ρ.s i)
  | .ptr b o => .pointer (some ⟨Γ.id b, (o.I Γ.ρ).toNat, none⟩)
  | .nilp => .pointer none
  | .slice b o l c => .slice (some ⟨Γ.id b, (o.I Γ.ρ).toNat, none⟩) (l.I Γ.ρ).toNat (c.den Γ b)
  | .nils => .slice none 0 0
  | .fn f caps => .func (.func f) #[] (caps.map fun p => Value.pointer (some ⟨Γ.id p.1, p.2, none⟩)).toArray
  | .nilf => .nilFunc
  | .emp b o m d => .slice (some ⟨Γ.id b, if Γ.sz b = m then o else o + d, none⟩) 0 (Γ.sz b - m)
def densOf (Γ : Ctx) (l : List MC) : List Value := l.map (MC.den Γ)
def avDen (Γ : Ctx) (p : Bool × List MC) : Value :=
  match p with
  | (true, l) => .agg (densOf Γ l).toArray
  | (false, m :: _) => m.den Γ
  | (false, []) => undef
/-- A row of bytes as a value; nil slices behind it. -/
def rowDen (Γ : Ctx) (x o : E) (n m : Nat) : List Value := (List.range n).map (fun j => Value.int .u8 (x.A Γ.ρ ((o.I Γ.ρ).toNat + j))) ++ List.replicate m (.slice none 0 0)
def MV.den (Γ : Ctx) : MV → Value
  | .unk => undef
  | .und => undef
  | .c m => m.den Γ
  | .agg l => .agg (densOf Γ l).toArray
  | .tup l => .tuple (l.map (avDen Γ)).toArray
  | .row x o n m => .agg (rowDen Γ x o n m).toArray
/-- A value is what it is told to be. -/
def MV.rel (Γ : Ctx) (m : MV) (v : Value) : Prop :=
  match m with
  | .unk => True
  | m => v = m.den Γ
theorem MV.rel_den (Γ : Ctx) (m : MV) : m.rel Γ (m.den Γ) := by cases m <;> simp [MV.rel]
theorem MV.rel_c {Γ : Ctx} {m : MC} {v : Value} (h : (MV.c m).rel Γ v) : v = m.den Γ := h
theorem MV.rel_agg {Γ : Ctx} {l : List MC} {v : Value} (h : (MV.agg l).rel Γ v) : v = .agg (densOf Γ l).toArray := h
def MC.on (L : Nat → Prop) : MC → Prop
  | .ptr b _ => L b
  | .slice b _ _ _ => L b
  | .fn _ caps => ∀ p ∈ caps, L p.1
  | .emp b _ _ _ => L b
  | _ => True
def csOn (L : Nat → Prop) (l : List MC) : Prop := ∀ m ∈ l, m.on L
def MV.on (L : Nat → Prop) : MV → Prop
  | .c m => m.on L
  | .agg l => csOn L l
  | .tup l => ∀ p ∈ l, csOn L p.2
  | _ => True
def Blk.on (L : Nat → Prop) : Blk → Prop
  | .cells cs _ _ => csOn L cs
  | .arr _ _ _ _ _ _ tl => csOn L tl
  | _ => True
theorem MC.on_mono {L L' : Nat → Prop} (h : ∀ j, L j → L' j) {m : MC} (hm : m.on L) : m.on L' := by
  cases m <;> simp only [MC.on] at hm ⊢
  · exact h _ hm
  · exact h _ hm
  · exact fun p hp => h _ (hm p hp)
  · exact h _ hm
theorem csOn_mono {L L' : Nat → Prop} (h : ∀ j, L j → L' j) {l : List MC} (hm : csOn L l) : csOn L' l := fun m hx => MC.on_mono h (hm m hx)
theorem MV.on_mono {L L' : Nat → Prop} (h : ∀ j, L j → L' j) {m : MV} (hm : m.on L) : m.on L' := by
  cases m <;> simp only [MV.on] at hm ⊢
  · exact MC.on_mono h hm
  · exact csOn_mono h hm
  · exact fun p hp => csOn_mono h (hm p hp)
theorem Blk.on_mono {L L' : Nat → Prop} (h : ∀ j, L j → L' j) {b : Blk} (hm : b.on L) : b.on L' := by
  cases b <;> simp only [Blk.on] at hm ⊢
  · exact csOn_mono h hm
  · exact csOn_mono h hm
/-- Two readings that agree on the blocks of L. -/
structure Agree (Γ Γ' : Ctx) (L : Nat → Prop) : Prop where
  ρ : Γ'.ρ = Γ.ρ
  id : ∀ j, L j → Γ'.id j = Γ.id j
  sz : ∀ j, L j → Γ'.sz j = Γ.sz j
theorem Agree.refl (Γ : Ctx) (L : Nat → Prop) : Agree Γ Γ L := ⟨rfl, fun _ _ => rfl, fun _ _ => rfl⟩
theorem Agree.trans {Γ Γ' Γ'' : Ctx} {L L' : Nat → Prop} (h : Agree Γ Γ' L) (k : Agree Γ' Γ'' L') (hl : ∀ j, L j → L' j) : Agree Γ Γ'' L :=
  ⟨k.ρ.trans h.ρ, fun j hj => (k.id j (hl j hj)).trans (h.id j hj), fun j hj => (k.sz j (hl j hj)).trans (h.sz j hj)⟩
theorem MC.den_agree {Γ Γ' : Ctx} {L : Nat → Prop} (h : Agree Γ Γ' L) {m : MC} (hm : m.on L) : m.den Γ' = m.den Γ := by
  cases m with
  | ptr b o => simp only [MC.on] at hm; simp only [MC.den, h.ρ, h.id _ hm]
  | slice b o l c =>
    simp only [MC.on] at hm
    have hc : c.den Γ' b = c.den Γ b := by cases c <;> simp only [Cap.den, h.ρ, h.sz _ hm]
    simp only [MC.den, h.ρ, h.id _ hm, hc]
  | fn f caps =>
    simp only [MC.on] at hm
    have : (caps.map fun p => Value.pointer (some ⟨Γ'.id p.1, p.2, none⟩)) = (caps.map fun p => Value.pointer (some ⟨Γ.id p.1, p.2, none⟩)) :=
      List.map_congr_left fun p hp => by rw [h.id _ (hm p hp)]
    simp only [MC.den, this]
  | emp b o m d =>
    simp only [MC.on] at hm
    simp only [MC.den, h.id _ hm, h.sz _ hm]
  | _ => simp only [MC.den, h.ρ]
theorem densOf_agree {Γ Γ' : Ctx} {L : Nat → Prop} (h : Agree Γ Γ' L) {l : List MC} (hm : csOn L l) : densOf Γ' l = densOf Γ l :=
  List.map_congr_left fun m hx => MC.den_agree h (hm m hx)
theorem MV.rel_agree {Γ Γ' : Ctx} {L : Nat → Prop} (h : Agree Γ Γ' L) {m : MV} (hm : m.on L) {v : Value} (hv : m.rel Γ v) : m.rel Γ' v := by
  cases m with
  | unk => trivial
  | und => exact hv
  | c m => simp only [MV.rel, MV.den] at hv ⊢; rw [MC.den_agree h hm]; exact hv
  | agg l => simp only [MV.rel, MV.den] at hv ⊢; rw [densOf_agree h hm]; exact hv
  | row x o n m => simp only [MV.rel, MV.den, rowDen, h.ρ] at hv ⊢; exact hv
  | tup l =>
    simp only [MV.rel, MV.den] at hv ⊢
    have : l.map (avDen Γ') = l.map (avDen Γ) := List.map_congr_left fun p hp => by
      obtain ⟨b, cs⟩ := p
      have := hm _ hp
      cases b
      · cases cs with
        | nil => rfl
        | cons m r => exact MC.den_agree h (this m (by simp))
      · simp only [avDen]; rw [densOf_agree h this]
    rw [this]; exact hv

/-! ### What blocks stand for -/
def Blk.rel (Γ : Ctx) (w : World) (j : Nat) : Blk → Prop
  | .gone => True
  | .cells cs t q => ∃ rest : List Value, w.heap[Γ.id j]? = some (.cells (densOf Γ cs ++ rest).toArray t (0, 0)) ∧ (q = 0 → rest = []) ∧ (q ≠ 0 → cs.length + rest.length = Γ.sz j * q)
  | .arr x ks lo n t wr tl => ∃ (cs : Array Value) (fr : Nat × Nat) (a m tt : Nat), w.heap[Γ.id j]? = some (.cells cs tt fr) ∧ (a : Int) = lo.I Γ.ρ ∧ (m : Int) = n.I Γ.ρ ∧ a + m + tl.length ≤ cs.size ∧
      (∀ i, i < m → cs[a + i]? = some (.int (ks.getD (i % ks.length) .u8) (x.A Γ.ρ i))) ∧ (∀ i v, (densOf Γ tl)[i]? = some v → cs[a + m + i]? = some v) ∧ (wr ≠ 0 → fr = (0, 0) ∧ tt = t) ∧ (∀ q, wr = q + 2 → cs.size = Γ.sz j * q ∧ a = 0)
def Blk.Gone (b : Blk) : Prop := b = .gone
theorem Blk.rel_heap {Γ : Ctx} {w : World} {j : Nat} {b : Blk} (h : b.rel Γ w j) (hg : ¬ b.Gone) : Γ.id j < w.heap.size := by
  cases b with
  | gone => exact absurd rfl hg
  | cells cs t q => obtain ⟨_, h, _⟩ := h; exact (Array.getElem?_eq_some_iff.1 h).1
  | arr x ks lo n t wr tl => obtain ⟨_, _, _, _, _, h, _⟩ := h; exact (Array.getElem?_eq_some_iff.1 h).1
theorem Blk.rel_agree {Γ Γ' : Ctx} {L : Nat → Prop} (h : Agree Γ Γ' L) {w w' : World} {j : Nat} {b : Blk} (hj : L j) (hb : b.on L)
    (hw : w'.heap[Γ.id j]? = w.heap[Γ.id j]?) (hr : b.rel Γ w j) : b.rel Γ' w' j := by
  cases b with
  | gone => trivial
  | cells cs t q =>
    obtain ⟨rest, h1, h2, h3⟩ := hr
    refine ⟨rest, ?_, h2, ?_⟩
    · rw [h.id j hj, hw, densOf_agree h hb]; exact h1
    · rw [h.sz j hj]; exact h3
  | arr x ks lo n t wr tl =>
    obtain ⟨cs, fr, a, m, tt, h1, h2, h3, h4, h5, h6, h7, h8⟩ := hr
    refine ⟨cs, fr, a, m, tt, ?_, ?_, ?_, h4, ?_, ?_, h7, fun q hq => by rw [h.sz j hj]; exact h8 q hq⟩
    · rw [h.id j hj, hw]; exact h1
    · rw [h.ρ]; exact h2
    · rw [h.ρ]; exact h3
    · rw [h.ρ]; exact h5
    · rw [densOf_agree h hb]; exact h6
/-- All blocks that are known are what they are told to be; two of them are two. -/
structure St.rel (Γ : Ctx) (L : Nat → Prop) (S : St) (w : World) : Prop where
  rel : ∀ j, (S.get j).rel Γ w j
  on : ∀ j, (S.get j).on L
  live : ∀ j, ¬ (S.get j).Gone → L j
  inj : ∀ i j, ¬ (S.get i).Gone → ¬ (S.get j).Gone → Γ.id i = Γ.id j → i = j
/-- The frame is what it is told to be. -/
structure Fr.rel (Γ : Ctx) (L : Nat → Prop) (N : Nat) (fr : Fr) (a : Act) : Prop where
  defers : a.defers = []
  size : N ≤ a.tmps.size
  lt : N ≤ 4000
  rel : ∀ t, (fr.get .unk t).rel Γ (a.tmps.getD t undef)
  on : ∀ t, (fr.get .unk t).on L

/-- What an operation (or a call) does to the world and to the reading. -/
structure Step (Γ Γ' : Ctx) (L : Nat → Prop) (S : St) (r : Res) (w w' : World) : Prop where
  ρ : Γ'.ρ = Γ.ρ
  id : ∀ j, ¬ (S.n ≤ j ∧ j < S.n + r.new.length) → Γ'.id j = Γ.id j
  sz : ∀ j, ¬ (S.n ≤ j ∧ j < S.n + r.new.length) → Γ'.sz j = Γ.sz j
  os : w'.os = w.os
  tape : w'.tape = w.tape
  output : w'.output = w.output
  size : w.heap.size ≤ w'.heap.size
  keep : ∀ k, k < w.heap.size → (∀ p ∈ r.upd, Γ.id p.1 ≠ k) → w'.heap[k]? = w.heap[k]?
  new : ∀ i, i < r.new.length → (r.new.getD i .gone).rel Γ' w' (S.n + i)
  fresh : ∀ i, i < r.new.length → ¬ (r.new.getD i .gone).Gone → w.heap.size ≤ Γ'.id (S.n + i) ∨ ∃ p ∈ r.upd, p.2.Gone ∧ ¬ (S.get p.1).Gone ∧ Γ'.id (S.n + i) = Γ.id p.1
  apart : ∀ i i', i < r.new.length → i' < r.new.length → ¬ (r.new.getD i .gone).Gone → ¬ (r.new.getD i' .gone).Gone → Γ'.id (S.n + i) = Γ'.id (S.n + i') → i = i'
  upd : ∀ p ∈ r.upd, p.2.rel Γ' w' p.1 ∧ ¬ (S.get p.1).Gone
  once : ∀ q ∈ r.upd, ∀ p ∈ r.upd, q.1 = p.1 → p.2.Gone → q.2.Gone
  onMv : r.mv.on fun j => L j ∨ (S.n ≤ j ∧ j < S.n + r.new.length)
  onNew : ∀ b ∈ r.new, b.on fun j => L j ∨ (S.n ≤ j ∧ j < S.n + r.new.length)
  onUpd : ∀ p ∈ r.upd, p.2.on fun j => L j ∨ (S.n ≤ j ∧ j < S.n + r.new.length)
theorem Step.agree {Γ Γ' : Ctx} {L : Nat → Prop} {S : St} {r : Res} {w w' : World} (h : Step Γ Γ' L S r w w') (hL : ∀ j, L j → ¬ (S.n ≤ j ∧ j < S.n + r.new.length)) : Agree Γ Γ' L :=
  ⟨h.ρ, fun j hj => h.id j (hL j hj), fun j hj => h.sz j (hL j hj)⟩
/-- An operation that makes and turns nothing. -/
theorem Step.pure {Γ : Ctx} {L : Nat → Prop} {S : St} {m : MV} {w : World} (hm : m.on L) : Step Γ Γ L S { mv := m } w w :=
  { ρ := rfl, id := fun _ _ => rfl, sz := fun _ _ => rfl, os := rfl, tape := rfl, output := rfl, size := Nat.le_refl _, keep := fun _ _ _ => rfl,
    new := fun i h => absurd h (by simp), fresh := fun i h => absurd h (by simp), apart := fun i _ h => absurd h (by simp), upd := fun p h => absurd h (by simp), once := fun q h => absurd h (by simp),
    onMv := MV.on_mono (fun j h => .inl h) hm, onNew := fun b h => absurd h (by simp), onUpd := fun p h => absurd h (by simp) }

theorem St.get_set (S : St) (b : Nat) (x : Blk) (u : Nat) (h : b < 4095) : (S.set b x).get u = if u = b then x else S.get u := Tri.get_set _ _ _ _ h
theorem St.get_push (S : St) (x : Blk) (u : Nat) (h : S.n < 4095) : (S.push x).get u = if u = S.n then x else S.get u := Tri.get_set _ _ _ _ h
theorem St.n_setAll : ∀ (l : List (Nat × Blk)) (S : St), (S.setAll l).n = S.n
  | [], _ => rfl
  | p :: l, S => by rw [St.setAll, St.n_setAll l]; rfl
theorem St.n_pushAll : ∀ (l : List Blk) (S : St), (S.pushAll l).n = S.n + l.length
  | [], _ => rfl
  | p :: l, S => by rw [St.pushAll, St.n_pushAll l]; show S.n + 1 + l.length = S.n + (l.length + 1); omega
/-- A block behind the turned ones: one of them, or as it was. -/
theorem St.get_setAll : ∀ (l : List (Nat × Blk)) (S : St) (u : Nat), (∀ p ∈ l, p.1 < 4095) →
    (∃ p ∈ l, p.1 = u ∧ (S.setAll l).get u = p.2) ∨ ((∀ p ∈ l, p.1 ≠ u) ∧ (S.setAll l).get u = S.get u)
  | [], S, u, _ => .inr ⟨fun p h => absurd h (by simp), rfl⟩
  | p :: l, S, u, h => by
    rw [St.setAll]
    rcases St.get_setAll l (S.set p.1 p.2) u (fun q hq => h q (by simp [hq])) with ⟨q, hq, h1, h2⟩ | ⟨h1, h2⟩
    · exact .inl ⟨q, by simp [hq], h1, h2⟩
    · rw [h2, St.get_set _ _ _ _ (h p (by simp))]
      by_cases hu : u = p.1
      · exact .inl ⟨p, by simp, hu.symm, by rw [if_pos hu]⟩
      · refine .inr ⟨fun q hq => ?_, by rw [if_neg hu]⟩
        rcases List.mem_cons.1 hq with rfl | hq
        · exact Ne.symm hu
        · exact h1 q hq
theorem St.get_pushAll : ∀ (l : List Blk) (S : St) (u : Nat), S.n + l.length ≤ 4000 →
    (S.pushAll l).get u = if S.n ≤ u ∧ u < S.n + l.length then l.getD (u - S.n) .gone else S.get u
  | [], S, u, _ => by rw [if_neg (by simp only [List.length_nil]; omega), St.pushAll]
  | x :: l, S, u, h => by
    simp only [List.length_cons] at h
    rw [St.pushAll, St.get_pushAll l (S.push x) u (by show S.n + 1 + l.length ≤ 4000; omega)]
    show (if S.n + 1 ≤ u ∧ u < S.n + 1 + l.length then l.getD (u - (S.n + 1)) .gone else (S.push x).get u) = _
    rw [St.get_push _ _ _ (by omega)]
    simp only [List.length_cons]
    by_cases h1 : S.n + 1 ≤ u ∧ u < S.n + 1 + l.length
    · rw [if_pos h1, if_pos (by omega)]
      have : u - S.n = (u - (S.n + 1)) + 1 := by omega
      rw [this]; simp
    · rw [if_neg h1]
      by_cases h2 : u = S.n
      · subst h2; rw [if_pos rfl, if_pos (by omega)]; simp
      · rw [if_neg h2, if_neg (by omega)]

theorem getD_mem {l : List Blk} {i : Nat} (h : ¬ (l.getD i .gone).Gone) : i < l.length ∧ l.getD i .gone ∈ l := by
  by_cases hi : i < l.length
  · refine ⟨hi, ?_⟩
    rw [List.getD_eq_getElem?_getD, List.getElem?_eq_getElem hi]
    exact List.getElem_mem hi
  · exact absurd (by rw [List.getD_eq_getElem?_getD, List.getElem?_eq_none (by omega)]; rfl) h
/-- A block behind an operation: a turned one, a new one, or as it was. -/
theorem St.get_app {S : St} {r : Res} (hn : S.n + r.new.length ≤ 4000) (hu : ∀ p ∈ r.upd, p.1 < S.n) (u : Nat) :
    (S.n ≤ u ∧ u < S.n + r.new.length ∧ (S.app r).get u = r.new.getD (u - S.n) .gone) ∨
    (¬ (S.n ≤ u ∧ u < S.n + r.new.length) ∧ ((∃ p ∈ r.upd, p.1 = u ∧ (S.app r).get u = p.2) ∨ ((∀ p ∈ r.upd, p.1 ≠ u) ∧ (S.app r).get u = S.get u))) := by
  have h1 := St.get_pushAll r.new (S.setAll r.upd) u (by rw [St.n_setAll]; exact hn)
  rw [St.n_setAll] at h1
  by_cases hc : S.n ≤ u ∧ u < S.n + r.new.length
  · left; rw [if_pos hc] at h1; exact ⟨hc.1, hc.2, h1⟩
  · right
    rw [if_neg hc] at h1
    refine ⟨hc, ?_⟩
    rcases St.get_setAll r.upd S u (fun p hp => by have := hu p hp; omega) with ⟨p, hp, h2, h3⟩ | ⟨h2, h3⟩
    · exact .inl ⟨p, hp, h2, h1.trans h3⟩
    · exact .inr ⟨h2, h1.trans h3⟩
theorem St.n_app (S : St) (r : Res) : (S.app r).n = S.n + r.new.length := by unfold St.app; rw [St.n_pushAll, St.n_setAll]
/-- Behind an operation the blocks are what they are told to be. -/
theorem St.rel_step {Γ Γ' : Ctx} {L : Nat → Prop} {S : St} {r : Res} {w w' : World} (hS : S.rel Γ L w) (h : Step Γ Γ' L S r w w')
    (hL : ∀ j, L j → j < S.n) (hn : S.n + r.new.length ≤ 4000) :
    (S.app r).rel Γ' (fun j => L j ∨ (S.n ≤ j ∧ j < S.n + r.new.length)) w' := by
  have ha := h.agree (fun j hj hc => by have := hL j hj; omega)
  have hu : ∀ p ∈ r.upd, p.1 < S.n := fun p hp => hL _ (hS.live _ (h.upd p hp).2)
  -- a block that is as it was
  have old : ∀ j, ¬ (S.get j).Gone → (∀ p ∈ r.upd, p.1 ≠ j) → w'.heap[Γ.id j]? = w.heap[Γ.id j]? := fun j hj hp =>
    h.keep _ (Blk.rel_heap (hS.rel j) hj) fun p hpu e => hp p hpu (hS.inj _ _ (h.upd p hpu).2 hj e)
  constructor
  · intro j
    rcases St.get_app hn hu j with ⟨h1, h2, h3⟩ | ⟨_, ⟨p, hp, rfl, h3⟩ | ⟨h2, h3⟩⟩
    · rw [h3]
      have := h.new (j - S.n) (by omega)
      rwa [show S.n + (j - S.n) = j from by omega] at this
    · rw [h3]; exact (h.upd p hp).1
    · rw [h3]
      by_cases hj : (S.get j).Gone
      · rw [hj]; trivial
      · exact Blk.rel_agree ha (hS.live j hj) (hS.on j) (old j hj h2) (hS.rel j)
  · intro j
    rcases St.get_app hn hu j with ⟨h1, h2, h3⟩ | ⟨_, ⟨p, hp, rfl, h3⟩ | ⟨h2, h3⟩⟩
    · rw [h3]
      by_cases hg : (r.new.getD (j - S.n) .gone).Gone
      · rw [hg]; trivial
      · exact h.onNew _ (getD_mem hg).2
    · rw [h3]; exact h.onUpd p hp
    · rw [h3]; exact Blk.on_mono (fun j h => .inl h) (hS.on j)
  · intro j hj
    rcases St.get_app hn hu j with ⟨h1, h2, h3⟩ | ⟨_, ⟨p, hp, rfl, h3⟩ | ⟨h2, h3⟩⟩
    · exact .inr ⟨h1, h2⟩
    · exact .inl (hS.live _ (h.upd p hp).2)
    · rw [h3] at hj; exact .inl (hS.live j hj)
  · intro i j hi hj hij
    -- where a block that is not new and not gone stood
    have was : ∀ u, ¬ ((S.app r).get u).Gone → ¬ (S.n ≤ u ∧ u < S.n + r.new.length) → ¬ (S.get u).Gone ∧ Γ'.id u = Γ.id u := fun u hg hc => by
      rcases St.get_app hn hu u with ⟨h1, h2, h3⟩ | ⟨_, ⟨p, hp, rfl, h3⟩ | ⟨h2, h3⟩⟩
      · exact absurd ⟨h1, h2⟩ hc
      · exact ⟨(h.upd p hp).2, h.id _ hc⟩
      · rw [h3] at hg; exact ⟨hg, h.id _ hc⟩
    have isNew : ∀ u, ¬ ((S.app r).get u).Gone → (S.n ≤ u ∧ u < S.n + r.new.length) → ¬ (r.new.getD (u - S.n) .gone).Gone := fun u hg hc => by
      rcases St.get_app hn hu u with ⟨h1, h2, h3⟩ | ⟨hh, _⟩
      · rwa [h3] at hg
      · exact absurd hc hh
    -- an old one and a new one
    have mix : ∀ u v, ¬ ((S.app r).get u).Gone → ¬ ((S.app r).get v).Gone → (S.n ≤ u ∧ u < S.n + r.new.length) → ¬ (S.n ≤ v ∧ v < S.n + r.new.length) → Γ'.id u ≠ Γ'.id v := fun u v hgu hgv hcu hcv e => by
      obtain ⟨hv1, hv2⟩ := was v hgv hcv
      have hnu := isNew u hgu hcu
      have hf := h.fresh (u - S.n) (by omega) hnu
      rw [show S.n + (u - S.n) = u from by omega] at hf
      rcases hf with hf | ⟨p, hp, hpg, hps, hpe⟩
      · have := Blk.rel_heap (hS.rel v) hv1
        rw [e, hv2] at hf; omega
      · -- the block that is gone was another one
        have hvp : v = p.1 := hS.inj v p.1 hv1 hps (by rw [← hv2, ← e, hpe])
        subst hvp
        rcases St.get_app hn hu p.1 with ⟨h1, h2, _⟩ | ⟨_, ⟨q, hq, hqe, h3⟩ | ⟨h2, _⟩⟩
        · exact hcv ⟨h1, h2⟩
        · exact hgv (by
            rw [h3]
            exact h.once q hq p hp hqe hpg)
        · exact h2 p hp rfl
    by_cases hci : S.n ≤ i ∧ i < S.n + r.new.length
    · by_cases hcj : S.n ≤ j ∧ j < S.n + r.new.length
      · have hi' := isNew i hi hci; have hj' := isNew j hj hcj
        have := h.apart (i - S.n) (j - S.n) (by omega) (by omega) hi' hj' (by
          rw [show S.n + (i - S.n) = i from by omega, show S.n + (j - S.n) = j from by omega]; exact hij)
        omega
      · exact absurd hij (mix i j hi hj hci hcj)
    · by_cases hcj : S.n ≤ j ∧ j < S.n + r.new.length
      · exact absurd hij.symm (mix j i hj hi hcj hci)
      · obtain ⟨h1, h2⟩ := was i hi hci
        obtain ⟨h3, h4⟩ := was j hj hcj
        exact hS.inj i j h1 h3 (by rw [← h2, ← h4]; exact hij)
end Sx
end Go.Proofs.Ytigblagodlfedaa
