/- Glow, by hand: part H2. -/
import Derived.RangeFuncNested
import Derived.RangeFuncBound
import Derived.RangeFuncCalls
import Derived.RangeFuncLeaves
import Derived.Shelf.Abstract
import Derived.Shelf.RegionOpen
import Derived.WalkKit
import Derived.OwnWalkIn
import Derived.TacticsInMore
import Derived.LoopNIn
import Derived.LoopIn
import Derived.Lib.Hide
import Derived.IntWalk
import Derived.Maps.AppendAt
import Derived.Test.YtmgiabehooghcaaJ1
set_option linter.unusedVariables false
set_option linter.unusedSimpArgs false
set_option maxRecDepth 100000
set_option maxHeartbeats 4000000
namespace Go.Proofs.Ytmgiabehooghcaa
namespace Glow

def up (sd : Nat → List Nat) (V : Nat → Nat) (i : Nat) : Nat := (sd i).foldl (fun m s => max m (V s - 1)) 0
def Fix (sd : Nat → List Nat) (cl : Nat → Bool) (src : Nat → Nat) (n : Nat) (V : Nat → Nat) : Prop :=
  ∀ i, i < n → V i = if cl i = true then max (src i) (up sd V i) else 0

theorem foldmax_ge (f : Nat → Nat) : ∀ (l : List Nat) (a : Nat), a ≤ l.foldl (fun m s => max m (f s)) a ∧ ∀ s ∈ l, f s ≤ l.foldl (fun m s => max m (f s)) a
  | [], a => ⟨Nat.le_refl _, fun s h => by cases h⟩
  | x :: l, a => by
    have ih := foldmax_ge f l (max a (f x))
    refine ⟨Nat.le_trans (Nat.le_max_left _ _) ih.1, fun s h => ?_⟩
    rcases List.mem_cons.1 h with rfl | h
    · exact Nat.le_trans (Nat.le_max_right _ _) ih.1
    · exact ih.2 s h
theorem foldmax_of (f : Nat → Nat) : ∀ (l : List Nat) (a : Nat), l.foldl (fun m s => max m (f s)) a = a ∨ ∃ s ∈ l, l.foldl (fun m s => max m (f s)) a = f s
  | [], a => .inl rfl
  | x :: l, a => by
    rcases foldmax_of f l (max a (f x)) with h | ⟨s, hs, h⟩
    · by_cases hx : f x ≤ a
      · exact .inl (h.trans (Nat.max_eq_left hx))
      · exact .inr ⟨x, by simp, h.trans (Nat.max_eq_right (by omega))⟩
    · exact .inr ⟨s, by simp [hs], h⟩
theorem le_up {sd : Nat → List Nat} {V : Nat → Nat} {i s : Nat} (h : s ∈ sd i) : V s - 1 ≤ up sd V i := (foldmax_ge (fun s => V s - 1) (sd i) 0).2 s h
theorem up_of (sd : Nat → List Nat) (V : Nat → Nat) (i : Nat) : up sd V i = 0 ∨ ∃ s ∈ sd i, up sd V i = V s - 1 := foldmax_of (fun s => V s - 1) (sd i) 0
theorem up_congr {sd : Nat → List Nat} {V W : Nat → Nat} {i : Nat} (h : ∀ s ∈ sd i, V s = W s) : up sd V i = up sd W i := by
  unfold up
  generalize sd i = l at h
  generalize 0 = a
  induction l generalizing a with
  | nil => rfl
  | cons x l ih =>
    show l.foldl _ (max a (V x - 1)) = l.foldl _ (max a (W x - 1))
    rw [h x (by simp)]
    exact ih (fun s hs => h s (by simp [hs])) _

theorem Fix.le {sd sd' : Nat → List Nat} {cl cl' : Nat → Bool} {src src' : Nat → Nat} {n n' B : Nat} {V W : Nat → Nat} (hV : Fix sd cl src n V) (hW : Fix sd' cl' src' n' W) (hB : ∀ i, i < n → V i ≤ B)
    (f : Nat → Nat) (hf : ∀ i, i < n → cl i = true → f i < n' ∧ cl' (f i) = true ∧ src i ≤ src' (f i) ∧ ∀ s ∈ sd i, s < n ∧ f s ∈ sd' (f i)) : ∀ i, i < n → V i ≤ W (f i) := by
  have key : ∀ d k, B + 1 ≤ k + d → 0 < k → ∀ i, i < n → k ≤ V i → k ≤ W (f i) := by
    intro d
    induction d with
    | zero => intro k hk _ i hi h; have := hB i hi; omega
    | succ d ih =>
      intro k hk h0 i hi h
      have e := hV i hi
      by_cases hc : cl i = true
      · rw [if_pos hc] at e
        obtain ⟨h1, h2, h3, h4⟩ := hf i hi hc
        have e' := hW _ h1
        rw [if_pos h2] at e'
        by_cases hs : k ≤ src i
        · omega
        · have hu : k ≤ up sd V i := by omega
          rcases up_of sd V i with h0' | ⟨s, hs, he⟩
          · omega
          · obtain ⟨hn, hm⟩ := h4 s hs
            have := ih (k + 1) (by omega) (by omega) s hn (by omega)
            have := le_up (V := W) hm
            omega
      · rw [if_neg hc] at e
        omega
  intro i hi
  rcases Nat.eq_zero_or_pos (V i) with h | h
  · omega
  · exact key (B + 1) (V i) (by omega) h i hi (Nat.le_refl _)
theorem Fix.unique {sd : Nat → List Nat} {cl : Nat → Bool} {src : Nat → Nat} {n B : Nat} {V W : Nat → Nat} (hV : Fix sd cl src n V) (hW : Fix sd cl src n W) (hv : ∀ i, i < n → V i ≤ B) (hw : ∀ i, i < n → W i ≤ B)
    (hs : ∀ i, i < n → ∀ s ∈ sd i, s < n) : ∀ i, i < n → V i = W i := fun i hi =>
  Nat.le_antisymm (hV.le hW hv (fun i => i) (fun j hj hc => ⟨hj, hc, Nat.le_refl _, fun s h => ⟨hs j hj s h, h⟩⟩) i hi) (hW.le hV hw (fun i => i) (fun j hj hc => ⟨hj, hc, Nat.le_refl _, fun s h => ⟨hs j hj s h, h⟩⟩) i hi)

def stepF (sd : Nat → List Nat) (cl : Nat → Bool) (l : Nat) (p : List Nat × List Nat) (i : Nat) : List Nat × List Nat :=
  if l ≤ p.1.getD i 0 then p else (p.1.set i l, p.2 ++ (sd i).filter fun s => cl s && decide ((p.1.set i l).getD s 0 < l - 1))
def spreadF (sd : Nat → List Nat) (cl : Nat → Bool) (L : Nat → List Nat) : Nat → List Nat → List Nat → List Nat
  | 0, out, _ => out
  | l + 1, out, cur => spreadF sd cl L l (cur.foldl (stepF sd cl (l + 1)) (out, L l)).1 (cur.foldl (stepF sd cl (l + 1)) (out, L l)).2

theorem getD_set (l : List Nat) (i j v : Nat) (h : i < l.length) : (l.set i v).getD j 0 = if j = i then v else l.getD j 0 := by
  simp only [List.getD_eq_getElem?_getD, List.getElem?_set]
  by_cases e : i = j
  · subst e; simp [h]
  · simp [e, Ne.symm e]

structure Ahead (sd : Nat → List Nat) (cl : Nat → Bool) (L : Nat → List Nat) (n l : Nat) (out cur : List Nat) : Prop where
  len : out.length = n
  hi : ∀ i, out.getD i 0 ≤ 15
  lo : ∀ i, out.getD i 0 = 0 ∨ l < out.getD i 0
  clr : ∀ i, 0 < out.getD i 0 → i < n ∧ cl i = true
  own : ∀ m i, l < m → m ≤ 15 → i ∈ L m → m ≤ out.getD i 0
  from_ : ∀ s i, i ∈ sd s → cl i = true → l < out.getD s 0 → out.getD s 0 - 1 ≤ out.getD i 0 ∨ (out.getD s 0 - 1 = l ∧ i ∈ cur)
  why : ∀ i, 0 < out.getD i 0 → i ∈ L (out.getD i 0) ∨ ∃ s ∈ sd i, out.getD s 0 = out.getD i 0 + 1
  cur0 : ∀ i, i ∈ L l → i ∈ cur
  curWhy : ∀ i, i ∈ cur → i < n ∧ cl i = true ∧ (i ∈ L l ∨ ∃ s ∈ sd i, out.getD s 0 = l + 1)

structure Amid (sd : Nat → List Nat) (cl : Nat → Bool) (L : Nat → List Nat) (n l : Nat) (cur : List Nat) (out0 : List Nat) (d c : List Nat) (p : List Nat × List Nat) : Prop where
  eq : cur = d ++ c
  len : p.1.length = n
  hi : ∀ i, p.1.getD i 0 ≤ 15
  lo : ∀ i, p.1.getD i 0 = 0 ∨ l < p.1.getD i 0
  clr : ∀ i, 0 < p.1.getD i 0 → i < n ∧ cl i = true
  ge : ∀ i, out0.getD i 0 ≤ p.1.getD i 0
  old : ∀ i, l + 1 < p.1.getD i 0 → out0.getD i 0 = p.1.getD i 0
  dn : ∀ i, i ∈ d → l + 1 ≤ p.1.getD i 0
  from_ : ∀ s i, i ∈ sd s → cl i = true → p.1.getD s 0 = l + 1 → l ≤ p.1.getD i 0 ∨ i ∈ p.2
  why : ∀ i, 0 < p.1.getD i 0 → i ∈ L (p.1.getD i 0) ∨ ∃ s ∈ sd i, p.1.getD s 0 = p.1.getD i 0 + 1
  nl0 : ∀ i, i ∈ L l → i ∈ p.2
  nlWhy : ∀ i, i ∈ p.2 → i < n ∧ cl i = true ∧ (i ∈ L l ∨ ∃ s ∈ sd i, p.1.getD s 0 = l + 1)

variable {sd : Nat → List Nat} {cl : Nat → Bool} {L : Nat → List Nat} {n : Nat}

theorem Amid.step (hsym : ∀ i s, i < n → s ∈ sd i → s < n ∧ i ∈ sd s) {l : Nat} (hl : l + 1 ≤ 15) {cur out0 d c : List Nat} {x : Nat} {p : List Nat × List Nat}
    (h0 : Ahead sd cl L n (l + 1) out0 cur) (h : Amid sd cl L n l cur out0 d (x :: c) p) : Amid sd cl L n l cur out0 (d ++ [x]) c (stepF sd cl (l + 1) p x) := by
  obtain ⟨hxn, hxc, hxw⟩ := h0.curWhy x (by rw [h.eq]; simp)
  unfold stepF
  by_cases hge : l + 1 ≤ p.1.getD x 0
  · rw [if_pos hge]
    exact { h with eq := by rw [h.eq]; simp, dn := fun i hi => by rcases List.mem_append.1 hi with hi | hi
                                                                  · exact h.dn i hi
                                                                  · obtain rfl : i = x := by simpa using hi
                                                                    exact hge }
  · rw [if_neg hge]
    have hg : ∀ i, (p.1.set x (l + 1)).getD i 0 = if i = x then l + 1 else p.1.getD i 0 := fun i => getD_set _ _ _ _ (by rw [h.len]; exact hxn)
    have hx0 : p.1.getD x 0 = 0 := by rcases h.lo x with e | e <;> omega
    refine ⟨by rw [h.eq]; simp, by simpa using h.len, fun i => ?_, fun i => ?_, fun i => ?_, fun i => ?_, fun i => ?_, fun i hi => ?_, fun s i his hci => ?_, fun i => ?_, fun i hi => ?_, fun i hi => ?_⟩
    · show (p.1.set x (l + 1)).getD i 0 ≤ 15
      rw [hg]; split
      · exact hl
      · exact h.hi i
    · show (p.1.set x (l + 1)).getD i 0 = 0 ∨ l < (p.1.set x (l + 1)).getD i 0
      rw [hg]; split
      · right; omega
      · exact h.lo i
    · show 0 < (p.1.set x (l + 1)).getD i 0 → _
      rw [hg]; split
      · rename_i e; intro _; rw [e]; exact ⟨hxn, hxc⟩
      · exact h.clr i
    · show _ ≤ (p.1.set x (l + 1)).getD i 0
      rw [hg]; split
      · rename_i e; have := h.ge i; rw [e] at this ⊢; omega
      · exact h.ge i
    · show l + 1 < (p.1.set x (l + 1)).getD i 0 → _ = (p.1.set x (l + 1)).getD i 0
      rw [hg]; split
      · intro h; omega
      · exact h.old i
    · show l + 1 ≤ (p.1.set x (l + 1)).getD i 0
      rw [hg]; split
      · omega
      · rename_i e
        rcases List.mem_append.1 hi with hi | hi
        · exact h.dn i hi
        · exact absurd (by simpa using hi) e
    · show (p.1.set x (l + 1)).getD s 0 = l + 1 → l ≤ (p.1.set x (l + 1)).getD i 0 ∨ i ∈ p.2 ++ _
      intro hs
      by_cases e : s = x
      · subst e
        by_cases hlt : (p.1.set s (l + 1)).getD i 0 < l
        · right
          exact List.mem_append_right _ (List.mem_filter.2 ⟨his, by rw [hci]; simpa using hlt⟩)
        · left; omega
      · rw [hg, if_neg e] at hs
        rcases h.from_ s i his hci hs with h1 | h1
        · left; rw [hg]; split
          · omega
          · exact h1
        · exact .inr (List.mem_append_left _ h1)
    · show 0 < (p.1.set x (l + 1)).getD i 0 → i ∈ L ((p.1.set x (l + 1)).getD i 0) ∨ ∃ s ∈ sd i, (p.1.set x (l + 1)).getD s 0 = (p.1.set x (l + 1)).getD i 0 + 1
      by_cases e : i = x
      · intro _
        subst e
        rw [hg i, if_pos rfl]
        rcases hxw with h1 | ⟨s, hs, h1⟩
        · exact .inl h1
        · refine .inr ⟨s, hs, ?_⟩
          rw [hg]
          have hge' := h.ge s
          have : p.1.getD s 0 = l + 1 + 1 := by
            have := h.old s (by omega)
            omega
          rw [if_neg (by intro e; rw [e] at this; omega)]
          exact this
      · rw [hg i, if_neg e]
        intro hi
        rcases h.why i hi with h1 | ⟨s, hs, h1⟩
        · exact .inl h1
        · refine .inr ⟨s, hs, ?_⟩
          rw [hg, if_neg (by intro e; rw [e] at h1; omega)]
          exact h1
    · exact List.mem_append_left _ (h.nl0 i hi)
    · show i < n ∧ cl i = true ∧ (i ∈ L l ∨ ∃ s ∈ sd i, (p.1.set x (l + 1)).getD s 0 = l + 1)
      rcases List.mem_append.1 hi with hi | hi
      · obtain ⟨h1, h2, h3⟩ := h.nlWhy i hi
        refine ⟨h1, h2, ?_⟩
        rcases h3 with h3 | ⟨s, hs, h3⟩
        · exact .inl h3
        · refine .inr ⟨s, hs, ?_⟩
          rw [hg]; split
          · rfl
          · exact h3
      · obtain ⟨h1, h2⟩ := List.mem_filter.1 hi
        obtain ⟨h3, h4⟩ := hsym x i hxn h1
        refine ⟨h3, by simp at h2; exact h2.1, .inr ⟨x, h4, ?_⟩⟩
        rw [hg, if_pos rfl]

theorem Amid.all (hsym : ∀ i s, i < n → s ∈ sd i → s < n ∧ i ∈ sd s) {l : Nat} (hl : l + 1 ≤ 15) {cur out0 : List Nat} (h0 : Ahead sd cl L n (l + 1) out0 cur) :
    ∀ (c d : List Nat) (p : List Nat × List Nat), Amid sd cl L n l cur out0 d c p → Amid sd cl L n l cur out0 cur [] (c.foldl (stepF sd cl (l + 1)) p)
  | [], d, p, h => by have e := h.eq; simp at e; rw [← e] at h; exact h
  | x :: c, d, p, h => Amid.all hsym hl h0 c (d ++ [x]) _ (h.step hsym hl h0)

theorem Ahead.next (hsym : ∀ i s, i < n → s ∈ sd i → s < n ∧ i ∈ sd s) (hL : ∀ m i, m ≤ 15 → i ∈ L m → i < n ∧ cl i = true) {l : Nat} (hl : l + 1 ≤ 15) {cur out : List Nat} (h : Ahead sd cl L n (l + 1) out cur) :
    Ahead sd cl L n l (cur.foldl (stepF sd cl (l + 1)) (out, L l)).1 (cur.foldl (stepF sd cl (l + 1)) (out, L l)).2 := by
  have k : Amid sd cl L n l cur out cur [] (cur.foldl (stepF sd cl (l + 1)) (out, L l)) := Amid.all hsym hl h cur [] _
    { eq := rfl, len := h.len, hi := h.hi, lo := fun i => by rcases h.lo i with e | e
                                                             · exact .inl e
                                                             · right; show l < out.getD i 0; omega
      clr := h.clr, ge := fun i => Nat.le_refl _, old := fun i _ => rfl, dn := fun i hi => by cases hi
      from_ := fun s i _ _ e => by
        have := h.lo s
        have e' : out.getD s 0 = l + 1 := e
        omega
      why := h.why, nl0 := fun i hi => hi, nlWhy := fun i hi => ⟨(hL l i (by omega) hi).1, (hL l i (by omega) hi).2, .inl hi⟩ }
  generalize cur.foldl (stepF sd cl (l + 1)) (out, L l) = p at k
  refine { len := k.len, hi := k.hi, lo := k.lo, clr := k.clr, own := fun m i hm hm' hi => ?_, from_ := fun s i his hci hs => ?_, why := k.why, cur0 := k.nl0, curWhy := k.nlWhy }
  · by_cases e : m = l + 1
    · subst e; exact k.dn i (h.cur0 i hi)
    · have := h.own m i (by omega) hm' hi
      have := k.ge i
      omega
  · by_cases e : p.1.getD s 0 = l + 1
    · rcases k.from_ s i his hci e with h1 | h1
      · left; omega
      · right; exact ⟨by omega, h1⟩
    · left
      have h1 := k.old s (by omega)
      have h2 := k.ge i
      rcases h.from_ s i his hci (by omega) with h3 | ⟨h3, h4⟩
      · omega
      · have := k.dn i h4
        omega

theorem spreadF_ahead (hsym : ∀ i s, i < n → s ∈ sd i → s < n ∧ i ∈ sd s) (hL : ∀ m i, m ≤ 15 → i ∈ L m → i < n ∧ cl i = true) : ∀ (l : Nat) (out cur : List Nat), l ≤ 15 → Ahead sd cl L n l out cur →
    ∃ c, Ahead sd cl L n 0 (spreadF sd cl L l out cur) c
  | 0, out, cur, _, h => ⟨cur, h⟩
  | l + 1, out, cur, hl, h => spreadF_ahead hsym hL l _ _ (by omega) (h.next hsym hL hl)

theorem getD_replicate (n i : Nat) : (List.replicate n 0).getD i 0 = 0 := by
  rw [List.getD_eq_getElem?_getD, List.getElem?_replicate]; split <;> rfl

theorem spreadF_fix (hsym : ∀ i s, i < n → s ∈ sd i → s < n ∧ i ∈ sd s) (hL : ∀ m i, m ≤ 15 → i ∈ L m → i < n ∧ cl i = true) (src : Nat → Nat)
    (hsrc : ∀ i, i < n → cl i = true → (∀ m, 0 < m → m ≤ 15 → i ∈ L m → m ≤ src i) ∧ (src i = 0 ∨ (src i ≤ 15 ∧ i ∈ L (src i)))) :
    (spreadF sd cl L 15 (List.replicate n 0) (L 15)).length = n ∧ (∀ i, (spreadF sd cl L 15 (List.replicate n 0) (L 15)).getD i 0 ≤ 15) ∧ Fix sd cl src n fun i => (spreadF sd cl L 15 (List.replicate n 0) (L 15)).getD i 0 := by
  obtain ⟨c, h⟩ := spreadF_ahead hsym hL 15 (List.replicate n 0) (L 15) (Nat.le_refl _)
    { len := by simp, hi := fun i => by rw [getD_replicate]; omega, lo := fun i => .inl (getD_replicate n i), clr := fun i hi => by rw [getD_replicate] at hi; omega
      own := fun m i h1 h2 _ => by omega
      from_ := fun s i _ _ hs => by rw [getD_replicate] at hs; omega
      why := fun i hi => by rw [getD_replicate] at hi; omega
      cur0 := fun i hi => hi, curWhy := fun i hi => ⟨(hL 15 i (by omega) hi).1, (hL 15 i (by omega) hi).2, .inl hi⟩ }
  generalize spreadF sd cl L 15 (List.replicate n 0) (L 15) = out at h
  refine ⟨h.len, h.hi, fun i hi => ?_⟩
  show out.getD i 0 = if cl i = true then max (src i) (up sd (fun i => out.getD i 0) i) else 0
  by_cases hc : cl i = true
  · rw [if_pos hc]
    obtain ⟨hs1, hs2⟩ := hsrc i hi hc
    have a1 : src i ≤ out.getD i 0 := by
      rcases Nat.eq_zero_or_pos (src i) with e | e
      · omega
      · rcases hs2 with h0 | ⟨h1, h2⟩
        · omega
        · exact h.own _ i e h1 h2
    have a2 : up sd (fun i => out.getD i 0) i ≤ out.getD i 0 := by
      rcases up_of sd (fun i => out.getD i 0) i with e | ⟨s, hs, e⟩
      · omega
      · rw [e]
        rcases Nat.eq_zero_or_pos (out.getD s 0) with e0 | e0
        · omega
        · rcases h.from_ s i (hsym i s hi hs).2 hc e0 with h1 | ⟨h1, _⟩ <;> omega
    have a3 : out.getD i 0 ≤ max (src i) (up sd (fun i => out.getD i 0) i) := by
      rcases Nat.eq_zero_or_pos (out.getD i 0) with e | e
      · omega
      · rcases h.why i e with h1 | ⟨s, hs, h1⟩
        · have := hs1 _ e (h.hi i) h1
          omega
        · have := le_up (V := fun i => out.getD i 0) hs
          omega
    omega
  · rw [if_neg hc]
    rcases Nat.eq_zero_or_pos (out.getD i 0) with e | e
    · exact e
    · exact absurd (h.clr i e).2 hc

theorem rounds_fix {src V : Nat → Nat} (hV : Fix sd cl src n V) (h15 : ∀ i, i < n → V i ≤ 15) (hs : ∀ i, i < n → ∀ s ∈ sd i, s < n) (R : Nat → Nat → Nat) (h0 : ∀ i, i < n → R 0 i ≤ 15) (h1 : ∀ i, i < n → cl i = true → src i ≤ R 0 i)
    (hR : ∀ k i, i < n → R (k + 1) i = if cl i = true then max (src i) (up sd (R k) i) else 0) : ∀ i, i < n → R 15 i = V i := by
  have key : ∀ k i, i < n → R k i ≤ max (V i) (15 - k) ∧ (15 - k ≤ V i → 0 < V i → V i ≤ R k i) := by
    intro k
    induction k with
    | zero =>
      intro i hi
      refine ⟨by have := h0 i hi; omega, fun h _ => ?_⟩
      have e := hV i hi
      by_cases hc : cl i = true
      · rw [if_pos hc] at e
        have := h1 i hi hc
        rcases up_of sd V i with h2 | ⟨s, hs', h2⟩
        · omega
        · have := h15 s (hs i hi s hs'); omega
      · rw [if_neg hc] at e; omega
    | succ k ih =>
      intro i hi
      have e := hV i hi
      have e' := hR k i hi
      by_cases hc : cl i = true
      · rw [if_pos hc] at e e'
        constructor
        · rcases up_of sd (R k) i with h2 | ⟨s, hs', h2⟩
          · omega
          · have := (ih s (hs i hi s hs')).1
            have := le_up (V := V) hs'
            omega
        · intro h hp
          rcases up_of sd V i with h2 | ⟨s, hs', h2⟩
          · omega
          · have := le_up (V := R k) hs'
            have := (ih s (hs i hi s hs')).2
            omega
      · rw [if_neg hc] at e e'
        omega
  intro i hi
  have := key 15 i hi
  omega

def sides (X Y Z i : Nat) : List Nat :=
  (if i % X + 1 < X then [i + 1] else []) ++ ((if 0 < i % X then [i - 1] else []) ++ ((if i / X % Z + 1 < Z then [i + X] else []) ++ ((if 0 < i / X % Z then [i - X] else []) ++
    ((if i / X / Z + 1 < Y then [i + X * Z] else []) ++ (if 0 < i / X / Z then [i - X * Z] else [])))))
def enc (X Z x z y : Nat) : Nat := (y * Z + z) * X + x
theorem enc_x {X Z x z y : Nat} (hx : x < X) : enc X Z x z y % X = x := by unfold enc; rw [Nat.mul_comm, Nat.mul_add_mod, Nat.mod_eq_of_lt hx]
theorem enc_d {X Z x z y : Nat} (hx : x < X) : enc X Z x z y / X = y * Z + z := by
  unfold enc; rw [Nat.mul_comm, Nat.mul_add_div (by omega), Nat.div_eq_of_lt hx]; omega
theorem enc_z {X Z x z y : Nat} (hx : x < X) (hz : z < Z) : enc X Z x z y / X % Z = z := by rw [enc_d hx, Nat.mul_comm, Nat.mul_add_mod, Nat.mod_eq_of_lt hz]
theorem enc_y {X Z x z y : Nat} (hx : x < X) (hz : z < Z) : enc X Z x z y / X / Z = y := by
  rw [enc_d hx, Nat.mul_comm, Nat.mul_add_div (by omega), Nat.div_eq_of_lt hz]; omega
theorem enc_eq (X Z i : Nat) : enc X Z (i % X) (i / X % Z) (i / X / Z) = i := by
  unfold enc
  rw [Nat.mul_comm (i / X / Z) Z, Nat.div_add_mod, Nat.mul_comm (i / X) X, Nat.div_add_mod]
theorem enc_lt {X Y Z x z y : Nat} (hx : x < X) (hz : z < Z) (hy : y < Y) : enc X Z x z y < X * Y * Z := by
  unfold enc
  have h1 : y * Z + z + 1 ≤ Y * Z := by
    have : (y + 1) * Z ≤ Y * Z := Nat.mul_le_mul_right _ hy
    rw [Nat.add_mul] at this; omega
  have h2 : (y * Z + z + 1) * X ≤ Y * Z * X := Nat.mul_le_mul_right _ h1
  rw [Nat.add_mul] at h2
  have h3 : X * Y * Z = Y * Z * X := by rw [Nat.mul_assoc, Nat.mul_comm]
  omega
theorem dec_lt {X Y Z i : Nat} (h : i < X * Y * Z) : i % X < X ∧ i / X % Z < Z ∧ i / X / Z < Y := by
  have hX : 0 < X := by rcases Nat.eq_zero_or_pos X with e | e; · rw [e] at h; simp at h
                        · exact e
  have hZ : 0 < Z := by rcases Nat.eq_zero_or_pos Z with e | e; · rw [e] at h; simp at h
                        · exact e
  refine ⟨Nat.mod_lt _ hX, Nat.mod_lt _ hZ, ?_⟩
  rw [Nat.div_div_eq_div_mul]
  refine Nat.div_lt_of_lt_mul ?_
  have h3 : X * Y * Z = X * Z * Y := by rw [Nat.mul_assoc, Nat.mul_comm Y Z, ← Nat.mul_assoc]
  omega
theorem enc_z1 (X Z x z y : Nat) : enc X Z x z y + X = enc X Z x (z + 1) y := by unfold enc; rw [← Nat.add_assoc, Nat.add_mul (y * Z + z) 1 X]; omega
theorem enc_y1 (X Z x z y : Nat) : enc X Z x z y + X * Z = enc X Z x z (y + 1) := by
  unfold enc
  have e : ((y + 1) * Z + z) * X = (y * Z + z) * X + X * Z := by
    rw [Nat.add_mul y 1 Z, Nat.add_right_comm, Nat.add_mul (y * Z + z) (1 * Z) X, Nat.one_mul, Nat.mul_comm Z X]
  omega
theorem enc_x1 (X Z x z y : Nat) : enc X Z x z y + 1 = enc X Z (x + 1) z y := rfl
theorem mem_sides {X Y Z x z y s : Nat} (hx : x < X) (hz : z < Z) : s ∈ sides X Y Z (enc X Z x z y) ↔
    (x + 1 < X ∧ s = enc X Z (x + 1) z y) ∨ (∃ k, x = k + 1 ∧ s = enc X Z k z y) ∨ (z + 1 < Z ∧ s = enc X Z x (z + 1) y) ∨ (∃ k, z = k + 1 ∧ s = enc X Z x k y) ∨ (y + 1 < Y ∧ s = enc X Z x z (y + 1)) ∨ (∃ k, y = k + 1 ∧ s = enc X Z x z k) := by
  unfold sides
  rw [enc_x hx, enc_z hx hz, enc_y hx hz, enc_x1, enc_z1, enc_y1]
  have m : ∀ (c : Prop) [Decidable c] (a : Nat), s ∈ (if c then [a] else []) ↔ c ∧ s = a := by intro c _ a; split <;> simp [*]
  simp only [List.mem_append, m]
  have e1 : (0 < x ∧ s = enc X Z x z y - 1) ↔ ∃ k, x = k + 1 ∧ s = enc X Z k z y := by
    constructor
    · rintro ⟨h, rfl⟩
      obtain ⟨k, rfl⟩ : ∃ k, x = k + 1 := ⟨x - 1, by omega⟩
      exact ⟨k, rfl, by have := enc_x1 X Z k z y; omega⟩
    · rintro ⟨k, rfl, rfl⟩
      exact ⟨by omega, by have := enc_x1 X Z k z y; omega⟩
  have e2 : (0 < z ∧ s = enc X Z x z y - X) ↔ ∃ k, z = k + 1 ∧ s = enc X Z x k y := by
    constructor
    · rintro ⟨h, rfl⟩
      obtain ⟨k, rfl⟩ : ∃ k, z = k + 1 := ⟨z - 1, by omega⟩
      exact ⟨k, rfl, by have := enc_z1 X Z x k y; omega⟩
    · rintro ⟨k, rfl, rfl⟩
      exact ⟨by omega, by have := enc_z1 X Z x k y; omega⟩
  have e3 : (0 < y ∧ s = enc X Z x z y - X * Z) ↔ ∃ k, y = k + 1 ∧ s = enc X Z x z k := by
    constructor
    · rintro ⟨h, rfl⟩
      obtain ⟨k, rfl⟩ : ∃ k, y = k + 1 := ⟨y - 1, by omega⟩
      exact ⟨k, rfl, by have := enc_y1 X Z x z k; omega⟩
    · rintro ⟨k, rfl, rfl⟩
      exact ⟨by omega, by have := enc_y1 X Z x z k; omega⟩
  rw [e1, e2, e3]
theorem sides_sym (X Y Z i s : Nat) (hi : i < X * Y * Z) (h : s ∈ sides X Y Z i) : s < X * Y * Z ∧ i ∈ sides X Y Z s := by
  obtain ⟨hx, hz, hy⟩ := dec_lt hi
  rw [← enc_eq X Z i] at h ⊢
  generalize i % X = x at *
  generalize i / X % Z = z at *
  generalize i / X / Z = y at *
  rcases (mem_sides hx hz).1 h with ⟨h1, rfl⟩ | ⟨k, rfl, rfl⟩ | ⟨h1, rfl⟩ | ⟨k, rfl, rfl⟩ | ⟨h1, rfl⟩ | ⟨k, rfl, rfl⟩
  · exact ⟨enc_lt h1 hz hy, (mem_sides h1 hz).2 (.inr (.inl ⟨x, rfl, rfl⟩))⟩
  · exact ⟨enc_lt (by omega) hz hy, (mem_sides (by omega) hz).2 (.inl ⟨hx, rfl⟩)⟩
  · exact ⟨enc_lt hx h1 hy, (mem_sides hx h1).2 (.inr (.inr (.inr (.inl ⟨z, rfl, rfl⟩))))⟩
  · exact ⟨enc_lt hx (by omega) hy, (mem_sides hx (by omega)).2 (.inr (.inr (.inl ⟨hz, rfl⟩)))⟩
  · exact ⟨enc_lt hx hz h1, (mem_sides hx hz).2 (.inr (.inr (.inr (.inr (.inr ⟨y, rfl, rfl⟩)))))⟩
  · exact ⟨enc_lt hx hz (by omega), (mem_sides hx hz).2 (.inr (.inr (.inr (.inr (.inl ⟨hy, rfl⟩)))))⟩
end Glow
end Go.Proofs.Ytmgiabehooghcaa
namespace Go.Proofs.Ytmgiabehooghcaa
open Go.RowKit Go.Shelf
attribute [local go_sem] Oper.semAt_some

theorem Kept.of_below {bl : Nat} {W W' : World} {k : Nat} {cs : Array Value} {t : TypeId} (h : Kept bl W k cs t) (hb : Below W.heap.size W W') (hbl : bl < W.heap.size) : Kept bl W' k cs t :=
  ⟨(hb.block k (Array.getElem?_eq_some_iff.1 h.1).1).trans h.1, fun hf => h.2 ((foot_congr (hb.block bl hbl) k).1 hf)⟩
theorem sides_go (n : Nat) (hn : 3 ≤ n) {bl aB xB bB zB yyB : Nat} {X Y Z i x z y : Nat} {cv : Value} (N : Nat) (W : World) (hf : ∀ k, foot bl W k → k < W.heap.size)
    (haa : Kept bl W aB #[.int .i64 i] 3) (hxx : Kept bl W xB #[.int .i64 x] 3) (hzz : Kept bl W zB #[.int .i64 z] 3) (hyy : Kept bl W yyB #[.int .i64 y] 3) (hbx : Kept bl W bB #[.int .i64 X, .int .i64 Y, .int .i64 Z, cv] 24)
    (hin : ∀ s ∈ sidesAt X Y Z i x z y, s < N) (hX : X ≤ 256) (hYb : Y ≤ 256) (hZ : Z ≤ 256) (hxX : x < X) (hzZ : z < Z) (hyY : y < Y) (hN : N ≤ 262144) (hi : i < N)
    (hx1 : 0 < x → 1 ≤ i) (hz1 : 0 < z → X ≤ i) (hy1 : 0 < y → X * Z ≤ i) :
    SeqGo Fence.wide n Try.prog 40 #[.pointer (some ⟨aB, 0, none⟩), .pointer (some ⟨xB, 0, none⟩), .pointer (some ⟨bB, 0, none⟩), .pointer (some ⟨zB, 0, none⟩), .pointer (some ⟨yyB, 0, none⟩)] (fun s : Fin N => #[.int .i64 s.val]) (KpL bl) (fun ys => ys.map (fun s => s.val) = sidesAt X Y Z i x z y) 6 W := by
  intro l J W1 hb hJ hY h0
  have hbl : bl < W.heap.size := hf _ (.inl rfl)
  have hf1 : ∀ k, foot bl W1 k → k < W1.heap.size := fun k hk => Nat.lt_of_lt_of_le (hf k ((foot_congr (hb.block bl hbl) k).1 hk)) hb.size
  refine (sides1_in Fence.wide n trivial trivial rfl rfl hn N J hY W1 (fun ys W2 o h => hJ ys W2 _ none h (World.grownBy_alloc W2 o none) (fun r e => by cases e)) hf1 (haa.of_below hb hbl) (hxx.of_below hb hbl) (hzz.of_below hb hbl) (hyy.of_below hb hbl) (hbx.of_below hb hbl)
    hin hX hYb hZ hxX hzZ hyY hN hi hx1 hz1 hy1 h0).mono ?_
  rintro e W2 ⟨⟨v, rfl⟩, ys, h1, h2⟩
  exact ⟨⟨v, rfl⟩, ys, h1, h2⟩
section
variable {w0 : World} {Dm : Nat → Prop} {bB lB oB oR lvB : Nat} {X Y Z N g off cap : Nat} {dl : List Nat} {lev : Nat} {out : List Nat} {Ls : Nat → List Nat} {K V : Nat → Nat} {cl : Nat → Bool} {vs : Nat → Value} {W : World}
theorem between_own (hdl : ∀ d, d ∈ dl → d < W.heap.size) (hw : w0.heap.size ≤ W.heap.size) : OwnFrom W.heap.size (Between w0 Dm bB lB oB oR lvB X Y Z N g off cap dl lev out Ls cl) := by
  intro pre A B row hs hg hr
  obtain ⟨vs, hS⟩ := hs
  refine ⟨vs, hS.same hg.os hg.tape hg.output hg.size fun k o hk hc => hg.block k (Array.getElem?_eq_some_iff.1 hk).1 fun e => ?_⟩
  obtain ⟨h1, o', ho', hc'⟩ := hr k e.symm
  rw [hk] at ho'; cases ho'
  rcases hc with h2 | h2 | h2
  · omega
  · rw [hc'] at h2; cases h2
  · have := hdl k h2; omega
theorem assign12 (F : Fence) (n : Nat) (a : Act) (s : Nat) (W' : World) (hsz : a.tmps.size = 76) (K : Act → World → Prop) (hK : K { tmps := (a.tmps.setIfInBounds 47 (.int .i64 s)).setIfInBounds 9 (.int .i64 s), defers := [] } W') {l : Nat} :
    (regOf 12 C26).wpIn (F.inRound l) n Try.prog (Exit.then K (fun _ _ _ => False)) { tmps := ((#[47] : Array Tmp).zip #[Value.int .i64 s]).foldl (fun t (p, v) => t.setIfInBounds p v) a.tmps, defers := [] } W' := by
  simp only [regOf, C26, Try.f26, Option.getD, Nat.reduceBEq, Bool.false_eq_true, if_true, if_false]
  have e0 : ((#[47] : Array Tmp).zip #[Value.int .i64 s]).foldl (fun t (p, v) => t.setIfInBounds p v) a.tmps = a.tmps.setIfInBounds 47 (.int .i64 s) := by simp
  rw [e0]
  refine region_seq (fun X a' w' => (X 0 = false → a' = { tmps := a.tmps.setIfInBounds 47 (.int .i64 s), defers := [] }) ∧ (X 0 = true → a' = { tmps := (a.tmps.setIfInBounds 47 (.int .i64 s)).setIfInBounds 9 (.int .i64 s), defers := [] }) ∧ w' = W') (by kernel_rfl) ⟨fun _ => rfl, fun h => (by cases h), rfl⟩ ⟨?_, trivial⟩ ?_
  · intro Xs a' w' hX hdep hC hI
    obtain ⟨h1, h2, rfl⟩ := hI
    obtain rfl := h1 hX
    have e47 : (a.tmps.setIfInBounds 47 (Value.int .i64 s))[47]?.getD undef = .int .i64 s := by simp [hsz]
    clear h1 h2 hK
    go_simp
  · intro Xs a' w' hX hI
    obtain ⟨h1, h2, rfl⟩ := hI
    rw [h2 (hX 0 (by simp))]
    exact hK
theorem range_in (n : Nat) (hn : 5 ≤ n) (hc : Cells w0 Dm N g off K V cl) (hlev : 1 ≤ lev ∧ lev ≤ 15) (ho : out.length = N) (ho15 : ∀ i, out.getD i 0 ≤ 15) (hcap : (Ls (lev - 1)).length + 6 ≤ 7 * N + 7) (hNe : N = X * Y * Z) (hX : X ≤ 256) (hY : Y ≤ 256) (hZ : Z ≤ 256)
    (i : Nat) (hi : i < N) (hS : Sp w0 Dm bB lB oB oR lvB X Y Z N g off cap dl lev out vs Ls W) (aB xB b2 zB yyB sz : Nat) (hfs : ∀ k, foot lB W k → k < sz) (hge : sz ≤ aB ∧ sz ≤ xB ∧ sz ≤ b2 ∧ sz ≤ zB ∧ sz ≤ yyB)
    (h1 : Boxed W aB 3 (.int .i64 i)) (h2 : Boxed W xB 3 (.int .i64 (i % X : Nat))) (h3 : Boxed W zB 3 (.int .i64 (i / X % Z : Nat))) (h4 : Boxed W yyB 3 (.int .i64 (i / X / Z : Nat))) (cv : Value) (h5 : W.heap[b2]? = some (.cells #[.int .i64 X, .int .i64 Y, .int .i64 Z, cv] 24 (0, 0)))
    (a : Act) (ds : List Deferred) (ha : RI [(2, .pointer (some ⟨bB, 0, none⟩)), (3, .pointer (some ⟨lB, 0, none⟩)), (5, .pointer (some ⟨oB, 0, none⟩)), (6, .pointer (some ⟨lvB, 0, none⟩)),
      (46, .func (.func 40) #[] #[.pointer (some ⟨aB, 0, none⟩), .pointer (some ⟨xB, 0, none⟩), .pointer (some ⟨b2, 0, none⟩), .pointer (some ⟨zB, 0, none⟩), .pointer (some ⟨yyB, 0, none⟩)])] [] 76 ds (fun _ _ => True) (fun _ => false) a W)
    (Q : Exit → Act → World → Prop) (hQ : ∀ D vs' W', W.heap.size ≤ D → W'.heap[D]? = some (.deferred (some [])) →
      Sp w0 Dm bB lB oB oR lvB X Y Z N g off cap dl lev out vs' (upd Ls (lev - 1) (Ls (lev - 1) ++ sfilt cl out (lev - 1) (Glow.sides X Y Z i))) W' → Q .normal { a with defers := { target := .collected D, args := #[] } :: a.defers } W') :
    (Code.rangeFunc rg.1 rg.2.1 rg.2.2.1 rg.2.2.2).wpIn Fence.wide n Try.prog Q a W := by
  have hd := hNe ▸ hi
  obtain ⟨hx, hz, hy⟩ := Glow.dec_lt hd
  have hk : ∀ {k cs t}, W.heap[k]? = some (Obj.cells cs t (0, 0)) → sz ≤ k → Kept lB W k cs t := fun h h' => ⟨h, fun hf => by have := hfs _ hf; omega⟩
  have hsd : ∀ s ∈ sidesAt X Y Z i (i % X) (i / X % Z) (i / X / Z), s < N := fun s hs => by rw [hNe]; exact (Glow.sides_sym X Y Z i s hd hs).1
  have hz1 : 0 < i / X % Z → X ≤ i := fun h => by
    rcases Nat.lt_or_ge i X with h' | h'
    · rw [Nat.div_eq_of_lt h'] at h; simp at h
    · exact h'
  have hy1 : 0 < i / X / Z → X * Z ≤ i := fun h => by
    rw [Nat.div_div_eq_div_mul] at h
    rcases Nat.lt_or_ge i (X * Z) with h' | h'
    · rw [Nat.div_eq_of_lt h'] at h; omega
    · exact h'
  have hx1 : 0 < i % X → 1 ≤ i := fun h => by
    rcases Nat.eq_zero_or_pos i with h' | h'
    · rw [h'] at h; simp at h
    · exact h'
  have e46 := ha.inp (46, .func (.func 40) #[] #[.pointer (some ⟨aB, 0, none⟩), .pointer (some ⟨xB, 0, none⟩), .pointer (some ⟨b2, 0, none⟩), .pointer (some ⟨zB, 0, none⟩), .pointer (some ⟨yyB, 0, none⟩)]) (by simp)
  have e1 : rg.1 = .tmp 46 := by kernel_rfl
  have e2 : rg.2.1 = #[47] := by kernel_rfl
  have e3 : rg.2.2.1 = regOf 12 C26 := by kernel_rfl
  rw [e1, e2, e3]
  refine rangeFunc_go rfl (by omega) (gf := 40) (lb := #[.pointer (some ⟨aB, 0, none⟩), .pointer (some ⟨xB, 0, none⟩), .pointer (some ⟨b2, 0, none⟩), .pointer (some ⟨zB, 0, none⟩), .pointer (some ⟨yyB, 0, none⟩)]) (by rw [eval_tmp]; exact e46) trivial (enters_of Try.func40 (by kernel_rfl) rfl)
    (sides_go (n - 1) (by omega) N W hS.ls.lt_foot (hk h1 hge.1) (hk h2 hge.2.1) (hk h3 hge.2.2.2.1) (hk h4 hge.2.2.2.2) (hk h5 hge.2.2.1) hsd hX hY hZ hx hz hy hc.n hi hx1 hz1 hy1)
    (fun h k => h.trans k) (fun W' l o o' hl h hc hw => KpL.book (w := W) W' l o o' hl h hc hw (by have := hS.ls.lt; omega)) (Below.refl _ _) (fun _ => rfl)
    (Between w0 Dm bB lB oB oR lvB X Y Z N g off cap dl lev out Ls cl) (between_own (fun d hd => (Array.getElem?_eq_some_iff.1 (hS.df d hd).2).1) hS.size) ⟨vs, ?_⟩
    (fun s => { tmps := (a.tmps.setIfInBounds 47 (.int .i64 s.val)).setIfInBounds 9 (.int .i64 s.val), defers := [] }) ?_ ?_ ?_
  · have : Ls = upd Ls (lev - 1) (Ls (lev - 1) ++ sfilt cl out (lev - 1) (([] : List (Fin N)).map fun s => s.val)) := by
      funext k; unfold upd sfilt; split
      · rename_i h; rw [h]; simp
      · rfl
    rw [← this]; exact hS
  · intro l s W' K hK
    exact assign12 _ (n - 1 - 1) a s.val W' ha.size K hK
  · intro l pre s W' hI hlen
    refine body_in (n - 1 - 1) l (by omega) hc hlev ho ho15 hcap pre s hlen W' hI _ ⟨by simpa using ha.size, rfl, ?_, by simp, trivial⟩
    intro p hp
    have hsz := ha.size
    simp only [List.mem_cons, List.not_mem_nil, or_false] at hp
    rcases hp with rfl | rfl | rfl | rfl | rfl
    · have := ha.inp (2, .pointer (some ⟨bB, 0, none⟩)) (by simp); simpa using this
    · have := ha.inp (3, .pointer (some ⟨lB, 0, none⟩)) (by simp); simpa using this
    · have := ha.inp (5, .pointer (some ⟨oB, 0, none⟩)) (by simp); simpa using this
    · have := ha.inp (6, .pointer (some ⟨lvB, 0, none⟩)) (by simp); simpa using this
    · simp [hsz]
  · rintro D ys W' hD hys ⟨vs', hS'⟩ hK
    refine hQ D vs' W' hD hK ?_
    rw [hys] at hS'
    exact hS'
end
end Go.Proofs.Ytmgiabehooghcaa
namespace Go.Proofs.Ytmgiabehooghcaa
open Go.RowKit Go.Shelf
attribute [local go_sem] Oper.semAt_some

theorem wrap_u8 {v : Nat} (h : v < 256) : IntKind.u8.wrap (v : Int) = v := by
  unfold IntKind.wrap
  simp [IntKind.bits, IntKind.signed]
  omega
theorem r3 (n : Nat) (W : World) (bB lB oB lvB : Nat) (lev : Nat) (c9 : W.cell? ⟨lvB, 0, none⟩ = some (.int .i64 lev)) (ds : List Deferred) (Q : Exit → Act → World → Prop) (a : Act) (h0 : RI [(2, .pointer (some ⟨bB, 0, none⟩)), (3, .pointer (some ⟨lB, 0, none⟩)), (5, .pointer (some ⟨oB, 0, none⟩)), (6, .pointer (some ⟨lvB, 0, none⟩))] [] 76 ds (fun _ _ => True) (fun _ => false) a W)
    (hQ : ∀ a, RI [(2, .pointer (some ⟨bB, 0, none⟩)), (3, .pointer (some ⟨lB, 0, none⟩)), (5, .pointer (some ⟨oB, 0, none⟩)), (6, .pointer (some ⟨lvB, 0, none⟩)), (15, .bool (decide (0 < lev)))] [] 76 ds (fun _ _ => True) (fun _ => false) a W → Q .normal a W) :
    (regOf 3 C26).wpIn Fence.wide n Try.prog Q a W := by
  have hmix : Try.prog.follows .mixedOrders = true := by kernel_rfl
  simp only [regOf, C26, Try.f26, Option.getD, Nat.reduceBEq, Bool.false_eq_true, if_true, if_false]
  refine region_seq (RI [(2, .pointer (some ⟨bB, 0, none⟩)), (3, .pointer (some ⟨lB, 0, none⟩)), (5, .pointer (some ⟨oB, 0, none⟩)), (6, .pointer (some ⟨lvB, 0, none⟩))]
    [(0, 14, .int .i64 lev), (1, 15, .bool (decide (0 < lev)))] 76 ds (fun _ w' => w' = W)) (by kernel_rfl) ⟨h0.size, h0.defers, h0.inp, by simp, rfl⟩ ⟨?_, ?_, trivial⟩ ?_
  · intro X a w hX hdep hC hI; have e6 := hI.gi 6 rfl; obtain rfl := hI.wp; go_simp; exact hI.p 0 14 hI.wp (v := .int .i64 lev)
  · intro X a w hX hdep hC hI; have e14 := hI.gk 0 rfl (hdep ⟨0, .data⟩ (by simp) rfl); obtain rfl := hI.wp; go_simp; exact hI.p 1 15 hI.wp (v := .bool (decide (0 < lev)))
  · intro X a w hX hI
    obtain rfl := hI.wp
    refine hQ a ⟨hI.size, hI.defers, ?_, by simp, trivial⟩
    simp only [List.mem_cons, List.not_mem_nil, or_false, forall_eq_or_imp, forall_eq]
    exact ⟨hI.inp (2, .pointer (some ⟨bB, 0, none⟩)) (by simp), hI.inp (3, .pointer (some ⟨lB, 0, none⟩)) (by simp), hI.inp (5, .pointer (some ⟨oB, 0, none⟩)) (by simp), hI.inp (6, .pointer (some ⟨lvB, 0, none⟩)) (by simp), hI.kn (1, 15, .bool (decide (0 < lev))) (by simp) (hX 1 (by simp))⟩
theorem r5 (n : Nat) (W : World) (bB lB oB lvB : Nat) (ds : List Deferred) (Q : Exit → Act → World → Prop) (a : Act) (h0 : RI [(2, .pointer (some ⟨bB, 0, none⟩)), (3, .pointer (some ⟨lB, 0, none⟩)), (5, .pointer (some ⟨oB, 0, none⟩)), (6, .pointer (some ⟨lvB, 0, none⟩))] [] 76 ds (fun _ _ => True) (fun _ => false) a W)
    (hQ : ∀ a, RI [(2, .pointer (some ⟨bB, 0, none⟩)), (3, .pointer (some ⟨lB, 0, none⟩)), (5, .pointer (some ⟨oB, 0, none⟩)), (6, .pointer (some ⟨lvB, 0, none⟩)), (7, .int .i64 0)] [] 76 ds (fun _ _ => True) (fun _ => false) a W → Q .normal a W) :
    (regOf 5 C26).wpIn Fence.wide n Try.prog Q a W := by
  have hmix : Try.prog.follows .mixedOrders = true := by kernel_rfl
  simp only [regOf, C26, Try.f26, Option.getD, Nat.reduceBEq, Bool.false_eq_true, if_true, if_false]
  refine region_seq (RI [(2, .pointer (some ⟨bB, 0, none⟩)), (3, .pointer (some ⟨lB, 0, none⟩)), (5, .pointer (some ⟨oB, 0, none⟩)), (6, .pointer (some ⟨lvB, 0, none⟩))]
    [(0, 7, .int .i64 0)] 76 ds (fun _ w' => w' = W)) (by kernel_rfl) ⟨h0.size, h0.defers, h0.inp, by simp, rfl⟩ ⟨?_, trivial⟩ ?_
  · intro X a w hX hdep hC hI; obtain rfl := hI.wp; go_simp; exact hI.p 0 7 hI.wp (v := .int .i64 0)
  · intro X a w hX hI
    obtain rfl := hI.wp
    refine hQ a ⟨hI.size, hI.defers, ?_, by simp, trivial⟩
    simp only [List.mem_cons, List.not_mem_nil, or_false, forall_eq_or_imp, forall_eq]
    exact ⟨hI.inp (2, .pointer (some ⟨bB, 0, none⟩)) (by simp), hI.inp (3, .pointer (some ⟨lB, 0, none⟩)) (by simp), hI.inp (5, .pointer (some ⟨oB, 0, none⟩)) (by simp), hI.inp (6, .pointer (some ⟨lvB, 0, none⟩)) (by simp), hI.kn (0, 7, .int .i64 0) (by simp) (hX 0 (by simp))⟩
theorem r6 (n : Nat) (W : World) (bB lB oB lvB : Nat) (lev k len c : Nat) (o : Option Addr) (c9 : W.cell? ⟨lvB, 0, none⟩ = some (.int .i64 lev)) (hl : lev < 16) (cl : W.cell? ⟨lB, lev, none⟩ = some (.slice o len c)) (ds : List Deferred) (Q : Exit → Act → World → Prop) (a : Act) (h0 : RI [(2, .pointer (some ⟨bB, 0, none⟩)), (3, .pointer (some ⟨lB, 0, none⟩)), (5, .pointer (some ⟨oB, 0, none⟩)), (6, .pointer (some ⟨lvB, 0, none⟩)), (7, .int .i64 k)] [] 76 ds (fun _ _ => True) (fun _ => false) a W)
    (hQ : ∀ a, RI [(2, .pointer (some ⟨bB, 0, none⟩)), (3, .pointer (some ⟨lB, 0, none⟩)), (5, .pointer (some ⟨oB, 0, none⟩)), (6, .pointer (some ⟨lvB, 0, none⟩)), (7, .int .i64 k), (23, .bool (decide (k < len)))] [] 76 ds (fun _ _ => True) (fun _ => false) a W → Q .normal a W) :
    (regOf 6 C26).wpIn Fence.wide n Try.prog Q a W := by
  have hmix : Try.prog.follows .mixedOrders = true := by kernel_rfl
  simp only [regOf, C26, Try.f26, Option.getD, Nat.reduceBEq, Bool.false_eq_true, if_true, if_false]
  refine region_seq (RI [(2, .pointer (some ⟨bB, 0, none⟩)), (3, .pointer (some ⟨lB, 0, none⟩)), (5, .pointer (some ⟨oB, 0, none⟩)), (6, .pointer (some ⟨lvB, 0, none⟩)), (7, .int .i64 k)]
    [(0, 18, .int .i64 k), (1, 19, .int .i64 lev), (2, 20, .pointer (some ⟨lB, lev, none⟩)), (3, 21, .slice o len c), (4, 22, .int .i64 len), (5, 23, .bool (decide (k < len)))] 76 ds (fun _ w' => w' = W)) (by kernel_rfl) ⟨h0.size, h0.defers, h0.inp, by simp, rfl⟩ ⟨?_, ?_, ?_, ?_, ?_, ?_, trivial⟩ ?_
  · intro X a w hX hdep hC hI; have e7 := hI.gi 7 rfl; obtain rfl := hI.wp; go_simp; exact hI.p 0 18 hI.wp (v := .int .i64 k)
  · intro X a w hX hdep hC hI; have e6 := hI.gi 6 rfl; obtain rfl := hI.wp; go_simp; exact hI.p 1 19 hI.wp (v := .int .i64 lev)
  · intro X a w hX hdep hC hI; have e3 := hI.gi 3 rfl; have e19 := hI.gk 1 rfl (hdep ⟨1, .data⟩ (by simp) rfl); obtain rfl := hI.wp
    have q1 : (0 : Int) ≤ lev := by omega
    have q2 : (lev : Int) < 16 := by omega
    have q3 : ((lev : Int)).toNat = lev := by omega
    go_simp; exact hI.p 2 20 hI.wp (v := .pointer (some ⟨lB, lev, none⟩))
  · intro X a w hX hdep hC hI; have e20 := hI.gk 2 rfl (hdep ⟨2, .data⟩ (by simp) rfl); obtain rfl := hI.wp; go_simp; exact hI.p 3 21 hI.wp (v := .slice o len c)
  · intro X a w hX hdep hC hI; have e21 := hI.gk 3 rfl (hdep ⟨3, .data⟩ (by simp) rfl); obtain rfl := hI.wp; go_simp; exact hI.p 4 22 hI.wp (v := .int .i64 len)
  · intro X a w hX hdep hC hI; have e18 := hI.gk 0 rfl (hdep ⟨0, .data⟩ (by simp) rfl); have e22 := hI.gk 4 rfl (hdep ⟨4, .data⟩ (by simp) rfl); obtain rfl := hI.wp; go_simp; exact hI.p 5 23 hI.wp (v := .bool (decide (k < len)))
  · intro X a w hX hI
    obtain rfl := hI.wp
    refine hQ a ⟨hI.size, hI.defers, ?_, by simp, trivial⟩
    simp only [List.mem_cons, List.not_mem_nil, or_false, forall_eq_or_imp, forall_eq]
    exact ⟨hI.inp (2, .pointer (some ⟨bB, 0, none⟩)) (by simp), hI.inp (3, .pointer (some ⟨lB, 0, none⟩)) (by simp), hI.inp (5, .pointer (some ⟨oB, 0, none⟩)) (by simp), hI.inp (6, .pointer (some ⟨lvB, 0, none⟩)) (by simp), hI.inp (7, .int .i64 k) (by simp), hI.kn (5, 23, .bool (decide (k < len))) (by simp) (hX 5 (by simp))⟩
theorem r8 (n : Nat) (W : World) (bB lB oB lvB : Nat) (lev k len c g i : Nat) (c9 : W.cell? ⟨lvB, 0, none⟩ = some (.int .i64 lev)) (hl : lev < 16) (cl : W.cell? ⟨lB, lev, none⟩ = some (.slice (some ⟨g, 0, none⟩) len c)) (hk : k < len) (cg : W.cell? ⟨g, k, none⟩ = some (.int .i64 i)) (ds : List Deferred) (Q : Exit → Act → World → Prop) (a : Act) (h0 : RI [(2, .pointer (some ⟨bB, 0, none⟩)), (3, .pointer (some ⟨lB, 0, none⟩)), (5, .pointer (some ⟨oB, 0, none⟩)), (6, .pointer (some ⟨lvB, 0, none⟩)), (7, .int .i64 k)] [] 76 ds (fun _ _ => True) (fun _ => false) a W)
    (hQ : ∀ a, RI [(2, .pointer (some ⟨bB, 0, none⟩)), (3, .pointer (some ⟨lB, 0, none⟩)), (5, .pointer (some ⟨oB, 0, none⟩)), (6, .pointer (some ⟨lvB, 0, none⟩)), (7, .int .i64 k), (8, .int .i64 i)] [] 76 ds (fun _ _ => True) (fun _ => false) a W → Q .normal a W) :
    (regOf 8 C26).wpIn Fence.wide n Try.prog Q a W := by
  have hmix : Try.prog.follows .mixedOrders = true := by kernel_rfl
  simp only [regOf, C26, Try.f26, Option.getD, Nat.reduceBEq, Bool.false_eq_true, if_true, if_false]
  refine region_seq (RI [(2, .pointer (some ⟨bB, 0, none⟩)), (3, .pointer (some ⟨lB, 0, none⟩)), (5, .pointer (some ⟨oB, 0, none⟩)), (6, .pointer (some ⟨lvB, 0, none⟩)), (7, .int .i64 k)]
    [(0, 26, .int .i64 lev), (1, 27, .pointer (some ⟨lB, lev, none⟩)), (2, 28, .slice (some ⟨g, 0, none⟩) len c), (3, 29, .int .i64 k), (4, 30, .pointer (some ⟨g, k, none⟩)), (5, 31, .int .i64 i), (6, 8, .int .i64 i)] 76 ds (fun _ w' => w' = W)) (by kernel_rfl) ⟨h0.size, h0.defers, h0.inp, by simp, rfl⟩ ⟨?_, ?_, ?_, ?_, ?_, ?_, ?_, trivial⟩ ?_
  · intro X a w hX hdep hC hI; have e6 := hI.gi 6 rfl; obtain rfl := hI.wp; go_simp; exact hI.p 0 26 hI.wp (v := .int .i64 lev)
  · intro X a w hX hdep hC hI; have e3 := hI.gi 3 rfl; have e26 := hI.gk 0 rfl (hdep ⟨0, .data⟩ (by simp) rfl); obtain rfl := hI.wp
    have q1 : (0 : Int) ≤ lev := by omega
    have q2 : (lev : Int) < 16 := by omega
    have q3 : ((lev : Int)).toNat = lev := by omega
    go_simp; exact hI.p 1 27 hI.wp (v := .pointer (some ⟨lB, lev, none⟩))
  · intro X a w hX hdep hC hI; have e27 := hI.gk 1 rfl (hdep ⟨1, .data⟩ (by simp) rfl); obtain rfl := hI.wp; go_simp; exact hI.p 2 28 hI.wp (v := .slice (some ⟨g, 0, none⟩) len c)
  · intro X a w hX hdep hC hI; have e7 := hI.gi 7 rfl; obtain rfl := hI.wp; go_simp; exact hI.p 3 29 hI.wp (v := .int .i64 k)
  · intro X a w hX hdep hC hI; have e28 := hI.gk 2 rfl (hdep ⟨2, .data⟩ (by simp) rfl); have e29 := hI.gk 3 rfl (hdep ⟨3, .data⟩ (by simp) rfl); obtain rfl := hI.wp
    have q4 : (0 : Int) ≤ k := by omega
    have q5 : (k : Int) < len := by omega
    go_simp; exact hI.p 4 30 hI.wp (v := .pointer (some ⟨g, k, none⟩))
  · intro X a w hX hdep hC hI; have e30 := hI.gk 4 rfl (hdep ⟨4, .data⟩ (by simp) rfl); obtain rfl := hI.wp; go_simp; exact hI.p 5 31 hI.wp (v := .int .i64 i)
  · intro X a w hX hdep hC hI; have e31 := hI.gk 5 rfl (hdep ⟨5, .data⟩ (by simp) rfl); obtain rfl := hI.wp; go_simp; exact hI.p 6 8 hI.wp (v := .int .i64 i)
  · intro X a w hX hI
    obtain rfl := hI.wp
    refine hQ a ⟨hI.size, hI.defers, ?_, by simp, trivial⟩
    simp only [List.mem_cons, List.not_mem_nil, or_false, forall_eq_or_imp, forall_eq]
    exact ⟨hI.inp (2, .pointer (some ⟨bB, 0, none⟩)) (by simp), hI.inp (3, .pointer (some ⟨lB, 0, none⟩)) (by simp), hI.inp (5, .pointer (some ⟨oB, 0, none⟩)) (by simp), hI.inp (6, .pointer (some ⟨lvB, 0, none⟩)) (by simp), hI.inp (7, .int .i64 k) (by simp), hI.kn (6, 8, .int .i64 i) (by simp) (hX 6 (by simp))⟩
theorem r9 (n : Nat) (W : World) (bB lB oB lvB : Nat) (lev k i oR N o : Nat) (c9 : W.cell? ⟨lvB, 0, none⟩ = some (.int .i64 lev)) (hl : lev < 16) (c10 : W.cell? ⟨oB, 0, none⟩ = some (.slice (some ⟨oR, 0, none⟩) N N)) (hi : i < N) (co : W.cell? ⟨oR, i, none⟩ = some (.int .u8 o)) (ds : List Deferred) (Q : Exit → Act → World → Prop) (a : Act) (h0 : RI [(2, .pointer (some ⟨bB, 0, none⟩)), (3, .pointer (some ⟨lB, 0, none⟩)), (5, .pointer (some ⟨oB, 0, none⟩)), (6, .pointer (some ⟨lvB, 0, none⟩)), (7, .int .i64 k), (8, .int .i64 i)] [] 76 ds (fun _ _ => True) (fun _ => false) a W)
    (hQ : ∀ a, RI [(2, .pointer (some ⟨bB, 0, none⟩)), (3, .pointer (some ⟨lB, 0, none⟩)), (5, .pointer (some ⟨oB, 0, none⟩)), (6, .pointer (some ⟨lvB, 0, none⟩)), (7, .int .i64 k), (8, .int .i64 i), (38, .bool (decide (lev ≤ o)))] [] 76 ds (fun _ _ => True) (fun _ => false) a W → Q .normal a W.drew) :
    (regOf 9 C26).wpIn Fence.wide n Try.prog Q a W := by
  have hmix : Try.prog.follows .mixedOrders = true := by kernel_rfl
  simp only [regOf, C26, Try.f26, Option.getD, Nat.reduceBEq, Bool.false_eq_true, if_true, if_false]
  refine region_inv (RI [(2, .pointer (some ⟨bB, 0, none⟩)), (3, .pointer (some ⟨lB, 0, none⟩)), (5, .pointer (some ⟨oB, 0, none⟩)), (6, .pointer (some ⟨lvB, 0, none⟩)), (7, .int .i64 k), (8, .int .i64 i)]
    [(0, 32, .slice (some ⟨oR, 0, none⟩) N N), (1, 33, .int .i64 i), (2, 34, .pointer (some ⟨oR, i, none⟩)), (3, 35, .int .u8 o), (4, 36, .int .i64 lev), (5, 37, .int .u8 lev), (6, 38, .bool (decide (lev ≤ o)))] 76 ds (fun _ w' => w' = W.drew)) hmix (by kernel_rfl) ⟨h0.size, h0.defers, h0.inp, by simp, rfl⟩ ⟨?_, ?_, ?_, ?_, ?_, ?_, ?_, trivial⟩ ?_
  · intro X a w hX hdep hC hI; have e5 := hI.gi 5 rfl; have hw : w = W.drew := hI.wp
    subst hw
    go_simp; exact hI.p 0 32 hI.wp (v := .slice (some ⟨oR, 0, none⟩) N N)
  · intro X a w hX hdep hC hI; have e8 := hI.gi 8 rfl; have hw : w = W.drew := hI.wp
    subst hw
    go_simp; exact hI.p 1 33 hI.wp (v := .int .i64 i)
  · intro X a w hX hdep hC hI; have e32 := hI.gk 0 rfl (hdep ⟨0, .data⟩ (by simp) rfl); have e33 := hI.gk 1 rfl (hdep ⟨1, .data⟩ (by simp) rfl); have hw : w = W.drew := hI.wp
    subst hw
    have q4 : (0 : Int) ≤ i := by omega
    have q5 : (i : Int) < N := by omega
    go_simp; exact hI.p 2 34 hI.wp (v := .pointer (some ⟨oR, i, none⟩))
  · intro X a w hX hdep hC hI; have e34 := hI.gk 2 rfl (hdep ⟨2, .data⟩ (by simp) rfl); have hw : w = W.drew := hI.wp
    subst hw
    go_simp; exact hI.p 3 35 hI.wp (v := .int .u8 o)
  · intro X a w hX hdep hC hI; have e6 := hI.gi 6 rfl; have hw : w = W.drew := hI.wp
    subst hw
    go_simp; exact hI.p 4 36 hI.wp (v := .int .i64 lev)
  · intro X a w hX hdep hC hI; have e36 := hI.gk 4 rfl (hdep ⟨4, .data⟩ (by simp) rfl); have hw : w = W.drew := hI.wp
    subst hw
    have w5 : IntKind.u8.wrap (lev : Int) = lev := wrap_u8 (by omega)
    go_simp; exact hI.p 5 37 hI.wp (v := .int .u8 lev)
  · intro X a w hX hdep hC hI; have e35 := hI.gk 3 rfl (hdep ⟨3, .data⟩ (by simp) rfl); have e37 := hI.gk 5 rfl (hdep ⟨5, .data⟩ (by simp) rfl); have hw : w = W.drew := hI.wp
    subst hw
    go_simp; exact hI.p 6 38 hI.wp (v := .bool (decide (lev ≤ o)))
  · intro X a w hX hI
    have hw : w = W.drew := hI.wp
    subst hw
    refine hQ a ⟨hI.size, hI.defers, ?_, by simp, trivial⟩
    simp only [List.mem_cons, List.not_mem_nil, or_false, forall_eq_or_imp, forall_eq]
    exact ⟨hI.inp (2, .pointer (some ⟨bB, 0, none⟩)) (by simp), hI.inp (3, .pointer (some ⟨lB, 0, none⟩)) (by simp), hI.inp (5, .pointer (some ⟨oB, 0, none⟩)) (by simp), hI.inp (6, .pointer (some ⟨lvB, 0, none⟩)) (by simp), hI.inp (7, .int .i64 k) (by simp), hI.inp (8, .int .i64 i) (by simp), hI.kn (6, 38, .bool (decide (lev ≤ o))) (by simp) (hX 6 (by simp))⟩
end Go.Proofs.Ytmgiabehooghcaa
namespace Go.Proofs.Ytmgiabehooghcaa
open Go.RowKit Go.Shelf
attribute [local go_sem] Oper.semAt_some

theorem r10 (n : Nat) (W : World) (bB lB oB lvB : Nat) (lev k i oR N o : Nat) (c9 : W.cell? ⟨lvB, 0, none⟩ = some (.int .i64 lev)) (hl : lev < 16) (c10 : W.cell? ⟨oB, 0, none⟩ = some (.slice (some ⟨oR, 0, none⟩) N N)) (hi : i < N) (co : W.cell? ⟨oR, i, none⟩ = some (.int .u8 o)) (cf : W.frozen? ⟨oR, i, none⟩ = false) (ds : List Deferred) (Q : Exit → Act → World → Prop) (a : Act) (h0 : RI [(2, .pointer (some ⟨bB, 0, none⟩)), (3, .pointer (some ⟨lB, 0, none⟩)), (5, .pointer (some ⟨oB, 0, none⟩)), (6, .pointer (some ⟨lvB, 0, none⟩)), (7, .int .i64 k), (8, .int .i64 i)] [] 76 ds (fun _ _ => True) (fun _ => false) a W)
    (hQ : ∀ a, RI [(2, .pointer (some ⟨bB, 0, none⟩)), (3, .pointer (some ⟨lB, 0, none⟩)), (5, .pointer (some ⟨oB, 0, none⟩)), (6, .pointer (some ⟨lvB, 0, none⟩)), (7, .int .i64 k), (8, .int .i64 i)] [] 76 ds (fun _ _ => True) (fun _ => false) a (W.setCell ⟨oR, i, none⟩ (.int .u8 lev)) → Q .normal a (W.setCell ⟨oR, i, none⟩ (.int .u8 lev))) :
    (regOf 10 C26).wpIn Fence.wide n Try.prog Q a W := by
  simp only [regOf, C26, Try.f26, Option.getD, Nat.reduceBEq, Bool.false_eq_true, if_true, if_false]
  refine region_seq (RI [(2, .pointer (some ⟨bB, 0, none⟩)), (3, .pointer (some ⟨lB, 0, none⟩)), (5, .pointer (some ⟨oB, 0, none⟩)), (6, .pointer (some ⟨lvB, 0, none⟩)), (7, .int .i64 k), (8, .int .i64 i)]
    [(0, 39, .slice (some ⟨oR, 0, none⟩) N N), (1, 40, .int .i64 i), (2, 41, .int .i64 lev), (3, 42, .int .u8 lev), (4, 43, .pointer (some ⟨oR, i, none⟩))] 76 ds (fun X w => (X 5 = false → w = W) ∧ (X 5 = true → w = W.setCell ⟨oR, i, none⟩ (.int .u8 lev)))) (by kernel_rfl) ⟨h0.size, h0.defers, h0.inp, by simp, fun _ => rfl, fun h => (by cases h)⟩ ⟨?_, ?_, ?_, ?_, ?_, ?_, trivial⟩ ?_
  · intro X a w hX hdep hC hI; have e5 := hI.gi 5 rfl
    have x5 : X 5 = false := by
      cases h : X 5 with
      | false => rfl
      | true => have := hC 5 _ rfl h ⟨0, .phase⟩ (by simp) rfl; rw [hX] at this; cases this
    have hw : w = W := hI.wp.1 x5
    subst hw
    go_simp
    exact hI.put' (k := 0) (d := 39) (v := .slice (some ⟨oR, 0, none⟩) N N) (by decide) (by simp) (by simp) (by simp) (by simpa [addX] using hI.wp)
  · intro X a w hX hdep hC hI; have e8 := hI.gi 8 rfl
    have x5 : X 5 = false := by
      cases h : X 5 with
      | false => rfl
      | true => have := hC 5 _ rfl h ⟨1, .phase⟩ (by simp) rfl; rw [hX] at this; cases this
    have hw : w = W := hI.wp.1 x5
    subst hw
    go_simp
    exact hI.put' (k := 1) (d := 40) (v := .int .i64 i) (by decide) (by simp) (by simp) (by simp) (by simpa [addX] using hI.wp)
  · intro X a w hX hdep hC hI; have e6 := hI.gi 6 rfl
    have x5 : X 5 = false := by
      cases h : X 5 with
      | false => rfl
      | true => have := hC 5 _ rfl h ⟨2, .phase⟩ (by simp) rfl; rw [hX] at this; cases this
    have hw : w = W := hI.wp.1 x5
    subst hw
    go_simp
    exact hI.put' (k := 2) (d := 41) (v := .int .i64 lev) (by decide) (by simp) (by simp) (by simp) (by simpa [addX] using hI.wp)
  · intro X a w hX hdep hC hI; have e41 := hI.gk 2 rfl (hdep ⟨2, .data⟩ (by simp) rfl)
    have x5 : X 5 = false := by
      cases h : X 5 with
      | false => rfl
      | true => have := hC 5 _ rfl h ⟨3, .data⟩ (by simp) rfl; rw [hX] at this; cases this
    have hw : w = W := hI.wp.1 x5
    subst hw
    have w5 : IntKind.u8.wrap (lev : Int) = lev := wrap_u8 (by omega)
    go_simp
    exact hI.put' (k := 3) (d := 42) (v := .int .u8 lev) (by decide) (by simp) (by simp) (by simp) (by simpa [addX] using hI.wp)
  · intro X a w hX hdep hC hI; have e39 := hI.gk 0 rfl (hdep ⟨0, .data⟩ (by simp) rfl); have e40 := hI.gk 1 rfl (hdep ⟨1, .data⟩ (by simp) rfl)
    have x5 : X 5 = false := by
      cases h : X 5 with
      | false => rfl
      | true => have := hC 5 _ rfl h ⟨4, .data⟩ (by simp) rfl; rw [hX] at this; cases this
    have hw : w = W := hI.wp.1 x5
    subst hw
    have q4 : (0 : Int) ≤ i := by omega
    have q5 : (i : Int) < N := by omega
    go_simp
    exact hI.put' (k := 4) (d := 43) (v := .pointer (some ⟨oR, i, none⟩)) (by decide) (by simp) (by simp) (by simp) (by simpa [addX] using hI.wp)
  · intro X a w hX hdep hC hI; have e43 := hI.gk 4 rfl (hdep ⟨4, .data⟩ (by simp) rfl); have e42 := hI.gk 3 rfl (hdep ⟨3, .data⟩ (by simp) rfl); have hw : w = W := hI.wp.1 hX
    subst hw
    go_simp
    exact hI.put_none' (k := 5) (by simp) ⟨fun h => by simp at h, fun _ => rfl⟩
  · intro X a w hX hI
    obtain rfl := hI.wp.2 (hX 5 (by simp))
    exact hQ a ⟨hI.size, hI.defers, hI.inp, by simp, trivial⟩
theorem r11 (n : Nat) (hn : 1 ≤ n) (W : World) (bB lB oB lvB : Nat) (k i : Nat) (X Y Z : Int) (cv : Value) (c0 : W.cell? ⟨bB, 0, none⟩ = some (.int .i64 X)) (c1 : W.cell? ⟨bB, 1, none⟩ = some (.int .i64 Y)) (c2 : W.cell? ⟨bB, 2, none⟩ = some (.int .i64 Z)) (c3 : W.cell? ⟨bB, 3, none⟩ = some cv)
    (PS : Value → World → Prop) (hcall : ∀ m, CallsIn Fence.wide m Try.prog 35 #[.agg #[.int .i64 X, .int .i64 Y, .int .i64 Z, cv], .int .i64 i] W fun e w' => ∃ v, e = .returned v ∧ PS v w')
    (ds : List Deferred) (Q : Exit → Act → World → Prop) (a : Act) (h0 : RI [(2, .pointer (some ⟨bB, 0, none⟩)), (3, .pointer (some ⟨lB, 0, none⟩)), (5, .pointer (some ⟨oB, 0, none⟩)), (6, .pointer (some ⟨lvB, 0, none⟩)), (7, .int .i64 k), (8, .int .i64 i)] [] 76 ds (fun _ _ => True) (fun _ => false) a W)
    (hQ : ∀ a V w, PS V w → RI [(2, .pointer (some ⟨bB, 0, none⟩)), (3, .pointer (some ⟨lB, 0, none⟩)), (5, .pointer (some ⟨oB, 0, none⟩)), (6, .pointer (some ⟨lvB, 0, none⟩)), (7, .int .i64 k), (8, .int .i64 i), (46, V)] [] 76 ds (fun _ _ => True) (fun _ => false) a w → Q .normal a w) :
    (regOf 11 C26).wpIn Fence.wide n Try.prog Q a W := by
  simp only [regOf, C26, Try.f26, Option.getD, Nat.reduceBEq, Bool.false_eq_true, if_true, if_false]
  refine region_seq (SomeV fun V => RI [(2, .pointer (some ⟨bB, 0, none⟩)), (3, .pointer (some ⟨lB, 0, none⟩)), (5, .pointer (some ⟨oB, 0, none⟩)), (6, .pointer (some ⟨lvB, 0, none⟩)), (7, .int .i64 k), (8, .int .i64 i)]
    [(0, 44, .agg #[.int .i64 X, .int .i64 Y, .int .i64 Z, cv]), (1, 45, .int .i64 i), (2, 46, V)] 76 ds (fun X w => (X 2 = false → w = W) ∧ (X 2 = true → PS V w))) (by kernel_rfl) ⟨undef, h0.size, h0.defers, h0.inp, by simp, fun _ => rfl, fun h => (by cases h)⟩ ⟨?_, ?_, ?_, trivial⟩ ?_
  · intro Xs a w hX hdep hC hJ
    obtain ⟨V, hI⟩ := hJ
    have e2 := hI.gi 2 rfl
    have x2 : Xs 2 = false := by
      cases h : Xs 2 with
      | false => rfl
      | true => have := hC 2 _ rfl h ⟨0, .data⟩ (by simp) rfl; rw [hX] at this; cases this
    have hw : w = W := hI.wp.1 x2
    subst hw
    go_simp
    exact ⟨V, hI.put' (k := 0) (d := 44) (v := .agg #[.int .i64 X, .int .i64 Y, .int .i64 Z, cv]) (by decide) (by simp) (by simp) (by simp) (by simpa [addX] using hI.wp)⟩
  · intro Xs a w hX hdep hC hJ
    obtain ⟨V, hI⟩ := hJ
    have e8 := hI.gi 8 rfl
    have x2 : Xs 2 = false := by
      cases h : Xs 2 with
      | false => rfl
      | true => have := hC 2 _ rfl h ⟨1, .data⟩ (by simp) rfl; rw [hX] at this; cases this
    have hw : w = W := hI.wp.1 x2
    subst hw
    go_simp
    exact ⟨V, hI.put' (k := 1) (d := 45) (v := .int .i64 i) (by decide) (by simp) (by simp) (by simp) (by simpa [addX] using hI.wp)⟩
  · intro Xs a w hX hdep hC hJ
    obtain ⟨V, hI⟩ := hJ
    have e44 := hI.gk 0 rfl (hdep ⟨0, .data⟩ (by simp) rfl); have e45 := hI.gk 1 rfl (hdep ⟨1, .data⟩ (by simp) rfl); have hw : w = W := hI.wp.1 hX
    subst hw
    go_simp
    refine ⟨trivial, (hcall (n - 1)).mono ?_⟩
    rintro e w' ⟨v, rfl, hps⟩
    refine ⟨v, RI.putX hI (k := 2) (d := 46) (by decide) (by simp) (by simp) (by simp) (by simp) ⟨fun h => by simp at h, fun _ => hps⟩⟩
  · intro Xs a w hX hJ
    obtain ⟨V, hI⟩ := hJ
    refine hQ a V w (hI.wp.2 (hX 2 (by simp))) ⟨hI.size, hI.defers, ?_, by simp, trivial⟩
    simp only [List.mem_cons, List.not_mem_nil, or_false, forall_eq_or_imp, forall_eq]
    exact ⟨hI.inp (2, .pointer (some ⟨bB, 0, none⟩)) (by simp), hI.inp (3, .pointer (some ⟨lB, 0, none⟩)) (by simp), hI.inp (5, .pointer (some ⟨oB, 0, none⟩)) (by simp), hI.inp (6, .pointer (some ⟨lvB, 0, none⟩)) (by simp), hI.inp (7, .int .i64 k) (by simp), hI.inp (8, .int .i64 i) (by simp), hI.kn (2, 46, V) (by simp) (hX 2 (by simp))⟩
structure I7 (W : World) (k : Nat) (R : (Nat → Bool) → Act → World → Prop) (X : Nat → Bool) (a : Act) (w : World) : Prop where
  eq : w = W
  h7 : X 2 = false → a.tmps[7]?.getD undef = .int .i64 k
  ri : R X a w
theorem r7 (n : Nat) (W : World) (bB lB oB lvB : Nat) (k : Nat) (hk : k < 9000000000) (ds : List Deferred) (Q : Exit → Act → World → Prop) (a : Act)
    (h0 : RI [(2, .pointer (some ⟨bB, 0, none⟩)), (3, .pointer (some ⟨lB, 0, none⟩)), (5, .pointer (some ⟨oB, 0, none⟩)), (6, .pointer (some ⟨lvB, 0, none⟩)), (7, .int .i64 k)] [] 76 ds (fun _ _ => True) (fun _ => false) a W)
    (hQ : ∀ a, RI [(2, .pointer (some ⟨bB, 0, none⟩)), (3, .pointer (some ⟨lB, 0, none⟩)), (5, .pointer (some ⟨oB, 0, none⟩)), (6, .pointer (some ⟨lvB, 0, none⟩)), (7, .int .i64 (k + 1 : Nat))] [] 76 ds (fun _ _ => True) (fun _ => false) a W → Q .normal a W) :
    (regOf 7 C26).wpIn Fence.wide n Try.prog Q a W := by
  simp only [regOf, C26, Try.f26, Option.getD, Nat.reduceBEq, Bool.false_eq_true, if_true, if_false]
  refine region_seq (I7 W k (RI [(2, .pointer (some ⟨bB, 0, none⟩)), (3, .pointer (some ⟨lB, 0, none⟩)), (5, .pointer (some ⟨oB, 0, none⟩)), (6, .pointer (some ⟨lvB, 0, none⟩))] [(0, 24, .int .i64 k), (1, 25, .int .i64 ((k : Int) + 1)), (2, 7, .int .i64 ((k : Int) + 1))] 76 ds (fun _ _ => True))) (by kernel_rfl)
    ⟨rfl, fun _ => h0.inp (7, .int .i64 k) (by simp), h0.size, h0.defers, fun p hp => h0.inp p (by simp only [List.mem_cons, List.not_mem_nil, or_false] at hp ⊢; rcases hp with h | h | h | h <;> simp [h]), by simp, trivial⟩ ⟨?_, ?_, ?_, trivial⟩ ?_
  · intro X a w hX hdep hC hI
    obtain ⟨rfl, h7, hI⟩ := hI
    have x2 : X 2 = false := by
      cases h : X 2 with
      | false => rfl
      | true => have := hC 2 _ rfl h ⟨0, .phase⟩ (by simp) rfl; rw [hX] at this; cases this
    have e7 := h7 x2
    clear h7
    go_simp
    exact ⟨rfl, fun _ => by simp [e7], hI.put' (k := 0) (d := 24) (v := .int .i64 k) (by decide) (by simp) (by simp) (by simp) trivial⟩
  · intro X a w hX hdep hC hI
    obtain ⟨rfl, h7, hI⟩ := hI
    have e24 := hI.gk 0 rfl (hdep ⟨0, .data⟩ (by simp) rfl)
    have x2 : X 2 = false := by
      cases h : X 2 with
      | false => rfl
      | true => have := hC 2 _ rfl h ⟨1, .data⟩ (by simp) rfl; rw [hX] at this; cases this
    have e7 := h7 x2
    clear h7
    have hw : IntKind.i64.wrap ((k : Int) + 1) = (k : Int) + 1 := IntWalk.i64_in _ (by omega); go_simp
    exact ⟨rfl, fun _ => by simp [e7], hI.put' (k := 1) (d := 25) (v := .int .i64 ((k : Int) + 1)) (by decide) (by simp) (by simp) (by simp) trivial⟩
  · intro X a w hX hdep hC hI
    obtain ⟨rfl, h7, hI⟩ := hI
    have e25 := hI.gk 1 rfl (hdep ⟨1, .data⟩ (by simp) rfl)
    clear h7
    go_simp
    exact ⟨rfl, fun h => by simp at h, hI.put' (k := 2) (d := 7) (v := .int .i64 ((k : Int) + 1)) (by decide) (by simp) (by simp) (by simp) trivial⟩
  · intro X a w hX hI
    obtain ⟨rfl, h7, hI⟩ := hI
    have e7 := hI.kn (2, 7, .int .i64 ((k : Int) + 1)) (by simp) (hX 2 (by simp))
    refine hQ a ⟨hI.size, hI.defers, ?_, by simp, trivial⟩
    intro p hp
    simp only [List.mem_cons, List.not_mem_nil, or_false] at hp
    rcases hp with rfl | rfl | rfl | rfl | rfl
    · exact hI.inp _ (by simp)
    · exact hI.inp _ (by simp)
    · exact hI.inp _ (by simp)
    · exact hI.inp _ (by simp)
    · exact e7
end Go.Proofs.Ytmgiabehooghcaa
namespace Go.Proofs.Ytmgiabehooghcaa
open Go.RowKit Go.Shelf
attribute [local go_sem] Oper.semAt_some

section
variable {w0 : World} {Dm : Nat → Prop} {bB lB oB oR lvB : Nat} {X Y Z N g off cap : Nat} {dl : List Nat} {lev : Nat} {out : List Nat} {Ls : Nat → List Nat} {K V : Nat → Nat} {cl : Nat → Bool} {vs : Nat → Value} {W : World}
theorem bytesV_set (out : List Nat) (x v : Nat) : (bytesV out).toArray.setIfInBounds x (.int .u8 v) = (bytesV (out.set x v)).toArray := by
  unfold bytesV
  simp [List.map_set]
theorem Sp.lit {X Y Z : Int} (h : Sp w0 Dm bB lB oB oR lvB X Y Z N g off cap dl lev out vs Ls W) (x v : Nat) : Sp w0 Dm bB lB oB oR lvB X Y Z N g off cap dl lev (out.set x v) vs Ls (W.setCell ⟨oR, x, none⟩ (.int .u8 v)) := by
  have hk : ∀ k, k ≠ oR → (W.setCell ⟨oR, x, none⟩ (.int .u8 v)).heap[k]? = W.heap[k]? := fun k hk => Below.heap_setCell _ _ _ k hk
  have hc : ∀ {k : Nat} {cs : Array Value} {t : TypeId}, W.heap[k]? = some (Obj.cells cs t (0, 0)) → t ≠ 5 → k ≠ oR := fun hb ht => heap_ne_of hb h.orow (by intro e; cases e; exact ht rfl)
  obtain ⟨cur, hb, _⟩ := h.ls.blk
  refine { os := h.os, tape := h.tape, output := h.output, size := by show _ ≤ (W.heap.modify _ _).size; rw [Array.size_modify]; exact h.size, old := fun k hk' hd => (hk k (by have := h.nr; omega)).trans (h.old k hk' hd)
           bx := (hk _ (hc h.bx (by decide))).trans h.bx, ob := (hk _ (hc h.ob (by decide))).trans h.ob, orow := ?_, lv := (hk _ (hc h.lv (by decide))).trans h.lv
           ls := h.ls.same (hk _ (hc hb (by decide))) (fun m hm g hg => by obtain ⟨c2, h2⟩ := ownsRow_blk (h.ls.rows m hm) hg; exact hk g (hc h2 (by decide)))
           dm := h.dm, nlv := h.nlv, nb := h.nb, nl := h.nl, no := h.no, nr := h.nr, nv := h.nv
           df := fun d hd => ⟨(h.df d hd).1, (hk d (heap_ne_of (h.df d hd).2 h.orow (by intro e; cases e))).trans (h.df d hd).2⟩, nd := h.nd }
  have := setCell_heap_same h.orow (m := x) (.int .u8 v)
  rw [bytesV_set] at this
  exact this
theorem Sp.below {X Y Z : Int} {W' : World} (h : Sp w0 Dm bB lB oB oR lvB X Y Z N g off cap dl lev out vs Ls W) (hb : Below W.heap.size W W') : Sp w0 Dm bB lB oB oR lvB X Y Z N g off cap dl lev out vs Ls W' :=
  h.same hb.os hb.tape hb.output hb.size fun k _ hk _ => hb.block k (Array.getElem?_eq_some_iff.1 hk).1
theorem Sp.defer {X Y Z : Int} {D : Nat} (h : Sp w0 Dm bB lB oB oR lvB X Y Z N g off cap dl lev out vs Ls W) (h1 : w0.heap.size ≤ D) (h2 : W.heap[D]? = some (.deferred (some []))) (h3 : D ∉ dl) : Sp w0 Dm bB lB oB oR lvB X Y Z N g off cap (D :: dl) lev out vs Ls W :=
  { h with df := fun d hd => by rcases List.mem_cons.1 hd with rfl | hd
                                · exact ⟨h1, h2⟩
                                · exact h.df d hd
           nd := List.nodup_cons.2 ⟨h3, h.nd⟩ }
structure Pure (N lev : Nat) (out nl : List Nat) : Prop where
  len : out.length = N
  hi : ∀ i, out.getD i 0 ≤ 15
  lo : ∀ i, out.getD i 0 = 0 ∨ lev ≤ out.getD i 0
  cap : nl.length + 6 * out.count 0 ≤ 7 * N
  nlt : ∀ s ∈ nl, s < N
theorem count_set (l : List Nat) (x v : Nat) (hx : x < l.length) (h0 : l.getD x 0 = 0) (hv : v ≠ 0) : (l.set x v).count 0 + 1 = l.count 0 := by
  induction l generalizing x with
  | nil => simp at hx
  | cons a l ih =>
    cases x with
    | zero =>
      simp at h0
      subst h0
      simp [List.count_cons, hv]
    | succ x =>
      simp only [List.set_cons_succ, List.count_cons]
      have := ih x (by simpa using hx) (by simpa using h0)
      omega
theorem sides_len (X Y Z i : Nat) : (Glow.sides X Y Z i).length ≤ 6 := by
  have m : ∀ (c : Prop) [Decidable c] (a : Nat), (if c then [a] else []).length ≤ 1 := by intro c _ a; split <;> simp
  unfold Glow.sides
  simp only [List.length_append]
  have h1 := m (i % X + 1 < X) (i + 1)
  have h2 := m (0 < i % X) (i - 1)
  have h3 := m (i / X % Z + 1 < Z) (i + X)
  have h4 := m (0 < i / X % Z) (i - X)
  have h5 := m (i / X / Z + 1 < Y) (i + X * Z)
  have h6 := m (0 < i / X / Z) (i - X * Z)
  omega
theorem Pure.step {out nl : List Nat} (h : Pure N lev out nl) (hNe : N = X * Y * Z) (hlev : 1 ≤ lev ∧ lev ≤ 15) {x : Nat} (hx : x < N) (hlt : out.getD x 0 < lev) :
    Pure N lev (out.set x lev) (nl ++ sfilt cl (out.set x lev) (lev - 1) (Glow.sides X Y Z x)) ∧ nl.length + 6 ≤ 7 * N + 7 := by
  have hx0 : out.getD x 0 = 0 := by rcases h.lo x with e | e <;> omega
  have hxl : x < out.length := by rw [h.len]; exact hx
  have hc := count_set out x lev hxl hx0 (by omega)
  have hf := List.length_filter_le (fun s => cl s && decide ((out.set x lev).getD s 0 < lev - 1)) (Glow.sides X Y Z x)
  have hs := sides_len X Y Z x
  have hcap := h.cap
  have hg : ∀ i, (out.set x lev).getD i 0 = if i = x then lev else out.getD i 0 := fun i => Glow.getD_set _ _ _ _ hxl
  refine ⟨⟨by simpa using h.len, fun i => ?_, fun i => ?_, ?_, fun s hs => ?_⟩, by omega⟩
  · rw [hg]; split
    · exact hlev.2
    · exact h.hi i
  · rw [hg]; split
    · right; omega
    · exact h.lo i
  · rw [List.length_append]; unfold sfilt; omega
  · rcases List.mem_append.1 hs with hs | hs
    · exact h.nlt s hs
    · have := (List.mem_filter.1 hs).1
      rw [hNe]
      exact (Glow.sides_sym X Y Z x s (hNe ▸ hx) this).1
end
end Go.Proofs.Ytmgiabehooghcaa
namespace Go.Proofs.Ytmgiabehooghcaa
open Go.RowKit Go.Shelf
attribute [local go_sem] Oper.semAt_some

def D26 (dl : List Nat) : List Deferred := dl.map fun d => { target := .collected d, args := #[] }
def B7 (bB lB oB lvB k : Nat) : List (Nat × Value) := [(2, .pointer (some ⟨bB, 0, none⟩)), (3, .pointer (some ⟨lB, 0, none⟩)), (5, .pointer (some ⟨oB, 0, none⟩)), (6, .pointer (some ⟨lvB, 0, none⟩)), (7, .int .i64 k)]
theorem RI.sub {inp inp' : List (Nat × Value)} {sz : Nat} {ds : List Deferred} {Wp Wp' : (Nat → Bool) → World → Prop} {X X' : Nat → Bool} {kn : List (Nat × Nat × Value)} {a : Act} {w w' : World} (h : RI inp kn sz ds Wp X a w) (hs : ∀ p ∈ inp', p ∈ inp) (hw : Wp' X' w') : RI inp' [] sz ds Wp' X' a w' :=
  ⟨h.size, h.defers, fun p hp => h.inp p (hs p hp), by simp, hw⟩
noncomputable def B3 : Code := .seq (regOf 8 C26) (.seq (.seq (regOf 9 C26) (.cond (.tmp 38) (.exit 3) .skip)) (.seq (regOf 10 C26) (.seq (regOf 11 C26) (.block 4 (.rangeFunc rg.1 rg.2.1 rg.2.2.1 rg.2.2.2)))))
noncomputable def Lp2 : Code := .seq (.seq (regOf 6 C26) (.cond (.tmp 23) .skip (.exit 2))) (.seq (.block 3 B3) (regOf 7 C26))
noncomputable def Lp1 : Code := .seq (.seq (regOf 3 C26) (.cond (.tmp 15) .skip (.exit 0))) (.seq (.block 1 (.seq (regOf 5 C26) (.block 2 (.loop Lp2)))) (.seq (.seq (regOf 15 C26) (regOf 16 C26)) (regOf 4 C26)))
theorem C26_eq : C26 = .seq (regOf 0 C26) (.seq (regOf 1 C26) (.seq (.seq (regOf 2 C26) (.block 0 (.loop Lp1))) (.seq (regOf 17 C26) .ret))) := by kernel_rfl
section
variable {w0 : World} {Dm : Nat → Prop} {bB lB oB oR lvB : Nat} {X Y Z N g off cap : Nat} {dl : List Nat} {lev : Nat} {out nl cur : List Nat} {Ls : Nat → List Nat} {K V : Nat → Nat} {cl : Nat → Bool} {vs : Nat → Value} {W : World}
theorem cell_at (hS : Sp w0 Dm bB lB oB oR lvB (X : Int) Y Z N g off cap dl lev out vs (upd Ls (lev - 1) nl) W) (hlev : 1 ≤ lev ∧ lev ≤ 15) (hcur : Ls lev = cur) :
    ∃ o c, vs lev = .slice o cur.length c ∧ ∀ k (hk : k < cur.length), ∃ g', o = some ⟨g', 0, none⟩ ∧ W.cell? ⟨g', k, none⟩ = some (.int .i64 (cur[k] : Nat)) := by
  have hr := hS.ls.rows lev (by omega)
  rw [upd_ne _ _ (by omega), hcur] at hr
  rcases hr.2 with ⟨h1, h2⟩ | ⟨g', cap', c, h1, _, h3, h4, _, h5, h6⟩
  · exact ⟨none, 0, by rw [h1, h2], fun k hk => by omega⟩
  · refine ⟨_, cap', h1, fun k hk => ⟨g', rfl, ?_⟩⟩
    have e : c[k]? = some (.int .i64 (cur[k] : Nat)) := by
      have h7 : (c.toList.take (cur.length * 1))[k]? = (intsV cur)[k]? := by rw [h6]
      rw [List.getElem?_take, if_pos (by omega)] at h7
      simp only [intsV, List.getElem?_map, List.getElem?_eq_getElem hk, Option.map_some] at h7
      simpa using h7
    simp [World.cell?, h3, e]
theorem round_in (n : Nat) (hn : 6 ≤ n) (hc : Cells w0 Dm N g off K V cl) (hlev : 1 ≤ lev ∧ lev ≤ 15) (hNe : N = X * Y * Z) (hX : X ≤ 256) (hY : Y ≤ 256) (hZ : Z ≤ 256) (hcur : Ls lev = cur) (hclt : ∀ s ∈ cur, s < N) (hcl : cur.length < 9000000000) (k : Nat) (hk : k < cur.length)
    (hP : Pure N lev out nl) (hS : Sp w0 Dm bB lB oB oR lvB (X : Int) Y Z N g off cap dl lev out vs (upd Ls (lev - 1) nl) W) (a : Act) (ha : RI (B7 bB lB oB lvB k) [] 76 (D26 dl) (fun _ _ => True) (fun _ => false) a W) (Q : Exit → Act → World → Prop)
    (hQ : ∀ a' W' dl' vs', RI (B7 bB lB oB lvB (k + 1)) [] 76 (D26 dl') (fun _ _ => True) (fun _ => false) a' W' →
      Sp w0 Dm bB lB oB oR lvB (X : Int) Y Z N g off cap dl' lev (Glow.stepF (Glow.sides X Y Z) cl lev (out, nl) cur[k]).1 vs' (upd Ls (lev - 1) (Glow.stepF (Glow.sides X Y Z) cl lev (out, nl) cur[k]).2) W' → Q .normal a' W') :
    (Code.seq (.block 3 B3) (regOf 7 C26)).wpIn Fence.wide n Try.prog Q a W := by
  obtain ⟨o, c, hv, hcell⟩ := cell_at hS hlev hcur
  obtain ⟨g', rfl, hg'⟩ := hcell k hk
  have hx : cur[k] < N := hclt _ (List.getElem_mem hk)
  have hlc : W.cell? ⟨lB, lev, none⟩ = some (.slice (some ⟨g', 0, none⟩) cur.length c) := by rw [hS.ls.cell (by omega), hv]
  refine wpIn_seq (wpIn_block (wpIn_seq ?_))
  refine r8 n W bB lB oB lvB lev k cur.length c g' cur[k] hS.lv.cell (by omega) hlc hk hg' (D26 dl) _ a (ha.sub (fun p hp => hp) trivial) ?_
  intro a1 h1
  refine wpIn_seq (wpIn_seq ?_)
  have hxl : cur[k] < out.length := by rw [hP.len]; exact hx
  have hco : W.cell? ⟨oR, cur[k], none⟩ = some (.int .u8 (out.getD cur[k] 0 : Nat)) := by
    simp only [World.cell?, hS.orow, bytesV]
    simp [List.getD_eq_getElem?_getD, hxl]
  have hcf : W.frozen? ⟨oR, cur[k], none⟩ = false := by simp [World.frozen?, hS.orow]
  refine r9 n W bB lB oB lvB lev k cur[k] oR N (out.getD cur[k] 0) hS.lv.cell (by omega) hS.ob.cell hx hco (D26 dl) _ a1 h1 ?_
  intro a2 h2
  have h38 := h2.inp (38, .bool (decide (lev ≤ out.getD cur[k] 0))) (by simp)
  have hS2 : Sp w0 Dm bB lB oB oR lvB (X : Int) Y Z N g off cap dl lev out vs (upd Ls (lev - 1) nl) W.drew := hS.below (Below.refl _ _).drew
  refine wpIn_cond (t := decide (lev ≤ out.getD cur[k] 0)) (by rw [eval_tmp]; exact h38) ?_
  by_cases hle : lev ≤ out.getD cur[k] 0
  · rw [decide_eq_true hle]
    refine wpIn_exit ?_
    have e : Glow.stepF (Glow.sides X Y Z) cl lev (out, nl) cur[k] = (out, nl) := by unfold Glow.stepF; rw [if_pos hle]
    rw [e] at hQ
    simp only [Exit.then, Exit.inBlock, if_true]
    refine r7 n W.drew bB lB oB lvB k (by omega) (D26 dl) _ a2 (h2.sub (by simp +contextual) trivial) ?_
    intro a3 h3
    exact hQ a3 W.drew dl vs h3 hS2
  · rw [decide_eq_false hle]
    refine wpIn_skip ?_
    simp only [Exit.then]
    have hlt : out.getD cur[k] 0 < lev := by omega
    obtain ⟨hP2, hcap⟩ := hP.step (cl := cl) hNe hlev hx hlt
    have e : Glow.stepF (Glow.sides X Y Z) cl lev (out, nl) cur[k] = (out.set cur[k] lev, nl ++ sfilt cl (out.set cur[k] lev) (lev - 1) (Glow.sides X Y Z cur[k])) := by unfold Glow.stepF; rw [if_neg hle]; rfl
    rw [e] at hQ
    refine wpIn_seq ?_
    refine r10 n W.drew bB lB oB lvB lev k cur[k] oR N (out.getD cur[k] 0) hS2.lv.cell (by omega) hS2.ob.cell hx hco hcf (D26 dl) _ a2 (h2.sub (by simp +contextual) trivial) ?_
    intro a3 h3
    have hS3 := hS2.lit cur[k] lev
    generalize W.drew.setCell ⟨oR, cur[k], none⟩ (.int .u8 lev) = W3 at h3 hS3 ⊢
    refine wpIn_seq ?_
    have hd := hNe ▸ hx
    obtain ⟨q1, q2, _⟩ := Glow.dec_lt hd
    have cb : ∀ j, W3.cell? ⟨bB, j, none⟩ = (#[Value.int .i64 X, .int .i64 Y, .int .i64 Z, .slice (some ⟨g, off, none⟩) N cap] : Array Value)[j]? := fun j => by simp [World.cell?, hS3.bx]
    refine r11 n (by omega) W3 bB lB oB lvB k cur[k] X Y Z (.slice (some ⟨g, off, none⟩) N cap) (by rw [cb]; rfl) (by rw [cb]; rfl) (by rw [cb]; rfl) (by rw [cb]; rfl)
      (fun v w' => ∃ aB xB b2 zB yyB : Nat, v = .func (.func 40) #[] #[.pointer (some ⟨aB, 0, none⟩), .pointer (some ⟨xB, 0, none⟩), .pointer (some ⟨b2, 0, none⟩), .pointer (some ⟨zB, 0, none⟩), .pointer (some ⟨yyB, 0, none⟩)] ∧
        Below W3.heap.size W3 w' ∧ (W3.heap.size ≤ aB ∧ W3.heap.size ≤ xB ∧ W3.heap.size ≤ b2 ∧ W3.heap.size ≤ zB ∧ W3.heap.size ≤ yyB) ∧ Boxed w' aB 3 (.int .i64 (cur[k] : Nat)) ∧ Boxed w' xB 3 (.int .i64 (cur[k] % X : Nat)) ∧ Boxed w' zB 3 (.int .i64 (cur[k] / X % Z : Nat)) ∧ Boxed w' yyB 3 (.int .i64 (cur[k] / X / Z : Nat)) ∧
        w'.heap[b2]? = some (.cells #[.int .i64 X, .int .i64 Y, .int .i64 Z, .slice (some ⟨g, off, none⟩) N cap] 24 (0, 0)))
      (fun m => (sides_in m X Y Z cur[k] (.slice (some ⟨g, off, none⟩) N cap) W3 (by omega) (by omega) (by have := hc.n; omega)).mono (by rintro e w' ⟨aB, xB, b2, zB, yyB, rfl, h⟩; exact ⟨_, rfl, aB, xB, b2, zB, yyB, rfl, h⟩)) (D26 dl) _ a3 h3 ?_
    rintro a4 v w4 ⟨aB, xB, b2, zB, yyB, rfl, hb4, hge, k1, k2, k3, k4, k5⟩ h4
    have hS4 := hS3.below hb4
    refine wpIn_block ?_
    have hcap2 : (upd Ls (lev - 1) nl (lev - 1)).length + 6 ≤ 7 * N + 7 := by rw [upd_same]; exact hcap
    refine range_in n (by omega) hc hlev hP2.len hP2.hi hcap2 hNe hX hY hZ cur[k] hx hS4 aB xB b2 zB yyB W3.heap.size (fun j hj => hS3.ls.lt_foot j ((foot_congr (hb4.block lB hS3.ls.lt) j).1 hj)) hge k1 k2 k3 k4 _ k5 a4 (D26 dl) (h4.sub (by simp +contextual) trivial) _ ?_
    intro D vs' W5 hD h5 hS5
    show (regOf 7 C26).wpIn Fence.wide n Try.prog Q _ W5
    refine r7 n W5 bB lB oB lvB k (by omega) (D26 (D :: dl)) _ _ ⟨h4.size, by show _ :: a4.defers = _; rw [h4.defers]; rfl, fun p hp => h4.inp p (by simp only [List.mem_cons, List.not_mem_nil, or_false] at hp ⊢; rcases hp with h | h | h | h | h <;> simp [h]), by simp, trivial⟩ ?_
    intro a6 h6
    refine hQ a6 W5 (D :: dl) vs' h6 ?_
    have e2 : upd (upd Ls (lev - 1) nl) (lev - 1) (upd Ls (lev - 1) nl (lev - 1) ++ sfilt cl (out.set cur[k] lev) (lev - 1) (Glow.sides X Y Z cur[k])) = upd Ls (lev - 1) (nl ++ sfilt cl (out.set cur[k] lev) (lev - 1) (Glow.sides X Y Z cur[k])) := by
      rw [upd_same]; funext j; unfold upd; split <;> rfl
    rw [e2] at hS5
    exact hS5.defer (by have := hS4.size; omega) h5 (fun hm => by have := (Array.getElem?_eq_some_iff.1 (hS4.df D hm).2).1; omega)
end
end Go.Proofs.Ytmgiabehooghcaa
namespace Go.Proofs.Ytmgiabehooghcaa
open Go.RowKit Go.Shelf
attribute [local go_sem] Oper.semAt_some

def slot7 (a : Act) : Nat := match a.tmps[7]?.getD undef with | .int _ v => v.toNat | _ => 0
section
variable {w0 : World} {Dm : Nat → Prop} {bB lB oB oR lvB : Nat} {X Y Z N g off cap : Nat} {dl : List Nat} {lev : Nat} {out nl cur : List Nat} {Ls : Nat → List Nat} {K V : Nat → Nat} {cl : Nat → Bool} {vs : Nat → Value} {W : World}
theorem Pure.stepF {p : List Nat × List Nat} (h : Pure N lev p.1 p.2) (hNe : N = X * Y * Z) (hlev : 1 ≤ lev ∧ lev ≤ 15) {x : Nat} (hx : x < N) : Pure N lev (Glow.stepF (Glow.sides X Y Z) cl lev p x).1 (Glow.stepF (Glow.sides X Y Z) cl lev p x).2 := by
  unfold Glow.stepF
  split
  · exact h
  · rename_i hlt
    exact (h.step (cl := cl) hNe hlev hx (by omega)).1
theorem take_snoc' (l : List Nat) (k : Nat) (h : k < l.length) : l.take (k + 1) = l.take k ++ [l[k]] := by
  rw [List.take_succ_eq_append_getElem h]
def B6 (bB lB oB lvB : Nat) : List (Nat × Value) := [(2, .pointer (some ⟨bB, 0, none⟩)), (3, .pointer (some ⟨lB, 0, none⟩)), (5, .pointer (some ⟨oB, 0, none⟩)), (6, .pointer (some ⟨lvB, 0, none⟩))]
theorem B6_sub {bB lB oB lvB k : Nat} : ∀ p ∈ B6 bB lB oB lvB, p ∈ B7 bB lB oB lvB k := by
  intro p hp
  unfold B6 at hp; unfold B7
  simp only [List.mem_cons, List.not_mem_nil, or_false] at hp ⊢
  rcases hp with h | h | h | h <;> simp [h]
theorem list_in (n : Nat) (hn : 6 ≤ n) (hc : Cells w0 Dm N g off K V cl) (hlev : 1 ≤ lev ∧ lev ≤ 15) (hNe : N = X * Y * Z) (hX : X ≤ 256) (hY : Y ≤ 256) (hZ : Z ≤ 256) (hcur : Ls lev = cur) (hclt : ∀ s ∈ cur, s < N) (hcl : cur.length < 9000000000)
    (hP : Pure N lev out nl) (hS : Sp w0 Dm bB lB oB oR lvB (X : Int) Y Z N g off cap dl lev out vs (upd Ls (lev - 1) nl) W) (a : Act) (ha : RI (B7 bB lB oB lvB 0) [] 76 (D26 dl) (fun _ _ => True) (fun _ => false) a W) (Q : Exit → Act → World → Prop)
    (hQ : ∀ a' W' dl' vs', RI (B6 bB lB oB lvB) [] 76 (D26 dl') (fun _ _ => True) (fun _ => false) a' W' → Pure N lev (cur.foldl (Glow.stepF (Glow.sides X Y Z) cl lev) (out, nl)).1 (cur.foldl (Glow.stepF (Glow.sides X Y Z) cl lev) (out, nl)).2 →
      Sp w0 Dm bB lB oB oR lvB (X : Int) Y Z N g off cap dl' lev (cur.foldl (Glow.stepF (Glow.sides X Y Z) cl lev) (out, nl)).1 vs' (upd Ls (lev - 1) (cur.foldl (Glow.stepF (Glow.sides X Y Z) cl lev) (out, nl)).2) W' → Q .normal a' W') :
    (Code.block 2 (.loop Lp2)).wpIn Fence.wide n Try.prog Q a W := by
  refine wpIn_block (wpIn_loop (fun a W => ∃ k dl vs, k ≤ cur.length ∧ Pure N lev ((cur.take k).foldl (Glow.stepF (Glow.sides X Y Z) cl lev) (out, nl)).1 ((cur.take k).foldl (Glow.stepF (Glow.sides X Y Z) cl lev) (out, nl)).2 ∧
      Sp w0 Dm bB lB oB oR lvB (X : Int) Y Z N g off cap dl lev ((cur.take k).foldl (Glow.stepF (Glow.sides X Y Z) cl lev) (out, nl)).1 vs (upd Ls (lev - 1) ((cur.take k).foldl (Glow.stepF (Glow.sides X Y Z) cl lev) (out, nl)).2) W ∧ RI (B7 bB lB oB lvB k) [] 76 (D26 dl) (fun _ _ => True) (fun _ => false) a W)
    (fun a _ => cur.length - slot7 a) ⟨0, dl, vs, Nat.zero_le _, hP, hS, ha⟩ ?_)
  rintro a W ⟨k, dl, vs, hk, hP, hS, ha⟩
  have e7 : slot7 a = k := by
    have := ha.inp (7, .int .i64 k) (by simp [B7])
    unfold slot7
    rw [this]
    exact Int.toNat_natCast k
  obtain ⟨o, c, hv, hcell⟩ := cell_at hS hlev hcur
  have hlc : W.cell? ⟨lB, lev, none⟩ = some (.slice o cur.length c) := by rw [hS.ls.cell (by omega), hv]
  unfold Lp2
  refine wpIn_seq (wpIn_seq ?_)
  refine r6 n W bB lB oB lvB lev k cur.length c o hS.lv.cell (by omega) hlc (D26 dl) _ a (ha.sub (fun p hp => hp) trivial) ?_
  intro a1 h1
  have h23 := h1.inp (23, .bool (decide (k < cur.length))) (by simp)
  refine wpIn_cond (t := decide (k < cur.length)) (by rw [eval_tmp]; exact h23) ?_
  have h1' : RI (B7 bB lB oB lvB k) [] 76 (D26 dl) (fun _ _ => True) (fun _ => false) a1 W := h1.sub (by
    intro p hp
    unfold B7 at hp
    simp only [List.mem_cons, List.not_mem_nil, or_false] at hp ⊢
    rcases hp with h | h | h | h | h <;> simp [h]) trivial
  by_cases hlt : k < cur.length
  · rw [decide_eq_true hlt]
    refine wpIn_skip ?_
    refine round_in n hn hc hlev hNe hX hY hZ hcur hclt hcl k hlt hP hS a1 h1' _ ?_
    intro a' W' dl' vs' h2 hS2
    have e2 : (cur.take (k + 1)).foldl (Glow.stepF (Glow.sides X Y Z) cl lev) (out, nl) = Glow.stepF (Glow.sides X Y Z) cl lev ((cur.take k).foldl (Glow.stepF (Glow.sides X Y Z) cl lev) (out, nl)) cur[k] := by
      rw [take_snoc' _ _ hlt, List.foldl_append]; rfl
    refine ⟨⟨k + 1, dl', vs', hlt, ?_, ?_, h2⟩, ?_⟩
    · rw [e2]; exact hP.stepF hNe hlev (hclt _ (List.getElem_mem hlt))
    · rw [e2]; exact hS2
    · have : slot7 a' = k + 1 := by
        have := h2.inp (7, .int .i64 (k + 1 : Nat)) (by simp [B7])
        unfold slot7
        rw [this]
        exact Int.toNat_natCast (k + 1)
      rw [this, e7]; omega
  · rw [decide_eq_false hlt]
    refine wpIn_exit ?_
    have hkl : k = cur.length := by omega
    rw [hkl, List.take_length] at hP hS
    show Q .normal a1 W
    exact hQ a1 W dl vs (h1'.sub B6_sub trivial) hP hS
end
end Go.Proofs.Ytmgiabehooghcaa
namespace Go.Proofs.Ytmgiabehooghcaa
open Go.RowKit Go.Shelf
attribute [local go_sem] Oper.semAt_some

theorem r15 (n : Nat) (W : World) (bB lB oB lvB : Nat) (lev : Nat) (c9 : W.cell? ⟨lvB, 0, none⟩ = some (.int .i64 lev)) (ds : List Deferred) (Q : Exit → Act → World → Prop) (a : Act) (h0 : RI [(2, .pointer (some ⟨bB, 0, none⟩)), (3, .pointer (some ⟨lB, 0, none⟩)), (5, .pointer (some ⟨oB, 0, none⟩)), (6, .pointer (some ⟨lvB, 0, none⟩))] [] 76 ds (fun _ _ => True) (fun _ => false) a W)
    (hQ : ∀ a, RI [(2, .pointer (some ⟨bB, 0, none⟩)), (3, .pointer (some ⟨lB, 0, none⟩)), (5, .pointer (some ⟨oB, 0, none⟩)), (6, .pointer (some ⟨lvB, 0, none⟩)), (74, .int .i64 lev)] [] 76 ds (fun _ _ => True) (fun _ => false) a W → Q .normal a W) :
    (regOf 15 C26).wpIn Fence.wide n Try.prog Q a W := by
  have hmix : Try.prog.follows .mixedOrders = true := by kernel_rfl
  simp only [regOf, C26, Try.f26, Option.getD, Nat.reduceBEq, Bool.false_eq_true, if_true, if_false]
  refine region_seq (RI [(2, .pointer (some ⟨bB, 0, none⟩)), (3, .pointer (some ⟨lB, 0, none⟩)), (5, .pointer (some ⟨oB, 0, none⟩)), (6, .pointer (some ⟨lvB, 0, none⟩))]
    [(0, 74, .int .i64 lev)] 76 ds (fun _ w' => w' = W)) (by kernel_rfl) ⟨h0.size, h0.defers, h0.inp, by simp, rfl⟩ ⟨?_, trivial⟩ ?_
  · intro X a w hX hdep hC hI; have e6 := hI.gi 6 rfl; obtain rfl := hI.wp; go_simp; exact hI.p 0 74 hI.wp (v := .int .i64 lev)
  · intro X a w hX hI
    obtain rfl := hI.wp
    refine hQ a ⟨hI.size, hI.defers, ?_, by simp, trivial⟩
    simp only [List.mem_cons, List.not_mem_nil, or_false, forall_eq_or_imp, forall_eq]
    exact ⟨hI.inp (2, .pointer (some ⟨bB, 0, none⟩)) (by simp), hI.inp (3, .pointer (some ⟨lB, 0, none⟩)) (by simp), hI.inp (5, .pointer (some ⟨oB, 0, none⟩)) (by simp), hI.inp (6, .pointer (some ⟨lvB, 0, none⟩)) (by simp), hI.kn (0, 74, .int .i64 lev) (by simp) (hX 0 (by simp))⟩
theorem r16 (n : Nat) (W : World) (bB lB oB : Nat) (lev : Nat) (ds : List Deferred) (Q : Exit → Act → World → Prop) (a : Act) (h0 : RI [(2, .pointer (some ⟨bB, 0, none⟩)), (3, .pointer (some ⟨lB, 0, none⟩)), (5, .pointer (some ⟨oB, 0, none⟩)), (74, .int .i64 lev)] [] 76 ds (fun _ _ => True) (fun _ => false) a W)
    (hQ : ∀ a, RI [(2, .pointer (some ⟨bB, 0, none⟩)), (3, .pointer (some ⟨lB, 0, none⟩)), (5, .pointer (some ⟨oB, 0, none⟩)), (6, .pointer (some ⟨W.heap.size, 0, none⟩))] [] 76 ds (fun _ _ => True) (fun _ => false) a (W.alloc (.cells #[.int .i64 lev] 3)) → Q .normal a (W.alloc (.cells #[.int .i64 lev] 3))) :
    (regOf 16 C26).wpIn Fence.wide n Try.prog Q a W := by
  simp only [regOf, C26, Try.f26, Option.getD, Nat.reduceBEq, Bool.false_eq_true, if_true, if_false]
  refine region_seq (RI [(2, .pointer (some ⟨bB, 0, none⟩)), (3, .pointer (some ⟨lB, 0, none⟩)), (5, .pointer (some ⟨oB, 0, none⟩)), (74, .int .i64 lev)]
    [(0, 6, .pointer (some ⟨W.heap.size, 0, none⟩))] 76 ds (fun X w => (X 0 = false → w = W) ∧ (X 0 = true → X 1 = false → w = W.alloc (.cells #[.int .i64 0] 3)) ∧ (X 1 = true → w = W.alloc (.cells #[.int .i64 lev] 3)))) (by kernel_rfl) ⟨h0.size, h0.defers, h0.inp, by simp, fun _ => rfl, fun h => (by cases h), fun h => (by cases h)⟩ ⟨?_, ?_, trivial⟩ ?_
  · intro X a w hX hdep hC hI; have hw : w = W := hI.wp.1 hX
    subst hw
    have x1 : X 1 = false := by
      cases h : X 1 with
      | false => rfl
      | true => have := hC 1 _ rfl h ⟨0, .data⟩ (by simp) rfl; rw [hX] at this; cases this
    go_simp
    refine hI.put' (k := 0) (d := 6) (v := .pointer (some ⟨w.heap.size, 0, none⟩)) (by decide) (by simp) (by simp) (by simp) ⟨fun h => by simp at h, fun _ _ => rfl, fun h => by simp [addX, x1] at h⟩
  · intro X a w hX hdep hC hI
    have x0 : X 0 = true := hdep ⟨0, .data⟩ (by simp) rfl
    have e6 := hI.gk 0 rfl x0; have e74 := hI.gi 74 rfl
    have hw := hI.wp.2.1 x0 hX
    subst hw
    have hn := Boxed.new W 3 (.int .i64 0)
    have hn1 := hn.cell
    have hn2 := hn.frozen
    have hn3 := alloc_set W 3 (.int .i64 0) (.int .i64 lev)
    go_simp
    exact hI.put_none' (k := 1) (by simp) ⟨fun h => by simp [addX, x0] at h, fun _ h => by simp at h, fun _ => rfl⟩
  · intro X a w hX hI
    obtain rfl := hI.wp.2.2 (hX 1 (by simp))
    refine hQ a ⟨hI.size, hI.defers, ?_, by simp, trivial⟩
    simp only [List.mem_cons, List.not_mem_nil, or_false, forall_eq_or_imp, forall_eq]
    exact ⟨hI.inp (2, .pointer (some ⟨bB, 0, none⟩)) (by simp), hI.inp (3, .pointer (some ⟨lB, 0, none⟩)) (by simp), hI.inp (5, .pointer (some ⟨oB, 0, none⟩)) (by simp), hI.kn (0, 6, .pointer (some ⟨W.heap.size, 0, none⟩)) (by simp) (hX 0 (by simp))⟩
theorem r4 (n : Nat) (W : World) (bB lB oB lvB : Nat) (lev : Nat) (hl : 1 ≤ lev ∧ lev ≤ 15) (c9 : W.cell? ⟨lvB, 0, none⟩ = some (.int .i64 lev)) (cf : W.frozen? ⟨lvB, 0, none⟩ = false) (ds : List Deferred) (Q : Exit → Act → World → Prop) (a : Act) (h0 : RI [(2, .pointer (some ⟨bB, 0, none⟩)), (3, .pointer (some ⟨lB, 0, none⟩)), (5, .pointer (some ⟨oB, 0, none⟩)), (6, .pointer (some ⟨lvB, 0, none⟩))] [] 76 ds (fun _ _ => True) (fun _ => false) a W)
    (hQ : ∀ a, RI [(2, .pointer (some ⟨bB, 0, none⟩)), (3, .pointer (some ⟨lB, 0, none⟩)), (5, .pointer (some ⟨oB, 0, none⟩)), (6, .pointer (some ⟨lvB, 0, none⟩))] [] 76 ds (fun _ _ => True) (fun _ => false) a (W.setCell ⟨lvB, 0, none⟩ (.int .i64 ((lev : Int) - 1))) → Q .normal a (W.setCell ⟨lvB, 0, none⟩ (.int .i64 ((lev : Int) - 1)))) :
    (regOf 4 C26).wpIn Fence.wide n Try.prog Q a W := by
  simp only [regOf, C26, Try.f26, Option.getD, Nat.reduceBEq, Bool.false_eq_true, if_true, if_false]
  refine region_seq (RI [(2, .pointer (some ⟨bB, 0, none⟩)), (3, .pointer (some ⟨lB, 0, none⟩)), (5, .pointer (some ⟨oB, 0, none⟩)), (6, .pointer (some ⟨lvB, 0, none⟩))]
    [(0, 16, .int .i64 lev), (1, 17, .int .i64 ((lev : Int) - 1))] 76 ds (fun X w => (X 2 = false → w = W) ∧ (X 2 = true → w = W.setCell ⟨lvB, 0, none⟩ (.int .i64 ((lev : Int) - 1))))) (by kernel_rfl) ⟨h0.size, h0.defers, h0.inp, by simp, fun _ => rfl, fun h => (by cases h)⟩ ⟨?_, ?_, ?_, trivial⟩ ?_
  · intro X a w hX hdep hC hI; have e6 := hI.gi 6 rfl
    have x2 : X 2 = false := by
      cases h : X 2 with
      | false => rfl
      | true => have := hC 2 _ rfl h ⟨0, .phase⟩ (by simp) rfl; rw [hX] at this; cases this
    have hw : w = W := hI.wp.1 x2
    subst hw
    go_simp
    exact hI.put' (k := 0) (d := 16) (v := .int .i64 lev) (by decide) (by simp) (by simp) (by simp) (by simpa [addX] using hI.wp)
  · intro X a w hX hdep hC hI; have e16 := hI.gk 0 rfl (hdep ⟨0, .data⟩ (by simp) rfl)
    have x2 : X 2 = false := by
      cases h : X 2 with
      | false => rfl
      | true => have := hC 2 _ rfl h ⟨1, .data⟩ (by simp) rfl; rw [hX] at this; cases this
    have hw : w = W := hI.wp.1 x2
    subst hw
    have w13 : IntKind.i64.wrap ((lev : Int) - 1) = (lev : Int) - 1 := wrap_in (by omega) (by omega)
    go_simp
    exact hI.put' (k := 1) (d := 17) (v := .int .i64 ((lev : Int) - 1)) (by decide) (by simp) (by simp) (by simp) (by simpa [addX] using hI.wp)
  · intro X a w hX hdep hC hI; have e6 := hI.gi 6 rfl; have e17 := hI.gk 1 rfl (hdep ⟨1, .data⟩ (by simp) rfl); have hw : w = W := hI.wp.1 hX
    subst hw
    go_simp
    exact hI.put_none' (k := 2) (by simp) ⟨fun h => by simp at h, fun _ => rfl⟩
  · intro X a w hX hI
    obtain rfl := hI.wp.2 (hX 2 (by simp))
    exact hQ a ⟨hI.size, hI.defers, hI.inp, by simp, trivial⟩
theorem r17 (n : Nat) (W : World) (bB lB oB oR N : Nat) (c10 : W.cell? ⟨oB, 0, none⟩ = some (.slice (some ⟨oR, 0, none⟩) N N)) (ds : List Deferred) (Q : Exit → Act → World → Prop) (a : Act) (h0 : RI [(2, .pointer (some ⟨bB, 0, none⟩)), (3, .pointer (some ⟨lB, 0, none⟩)), (5, .pointer (some ⟨oB, 0, none⟩))] [] 76 ds (fun _ _ => True) (fun _ => false) a W)
    (hQ : ∀ a, RI [(4, .slice (some ⟨oR, 0, none⟩) N N)] [] 76 ds (fun _ _ => True) (fun _ => false) a W → Q .normal a W) :
    (regOf 17 C26).wpIn Fence.wide n Try.prog Q a W := by
  have hmix : Try.prog.follows .mixedOrders = true := by kernel_rfl
  simp only [regOf, C26, Try.f26, Option.getD, Nat.reduceBEq, Bool.false_eq_true, if_true, if_false]
  refine region_seq (RI [(2, .pointer (some ⟨bB, 0, none⟩)), (3, .pointer (some ⟨lB, 0, none⟩)), (5, .pointer (some ⟨oB, 0, none⟩))]
    [(0, 75, .slice (some ⟨oR, 0, none⟩) N N), (1, 4, .slice (some ⟨oR, 0, none⟩) N N)] 76 ds (fun _ w' => w' = W)) (by kernel_rfl) ⟨h0.size, h0.defers, h0.inp, by simp, rfl⟩ ⟨?_, ?_, trivial⟩ ?_
  · intro X a w hX hdep hC hI; have e5 := hI.gi 5 rfl; obtain rfl := hI.wp; go_simp; exact hI.p 0 75 hI.wp (v := .slice (some ⟨oR, 0, none⟩) N N)
  · intro X a w hX hdep hC hI; have e75 := hI.gk 0 rfl (hdep ⟨0, .data⟩ (by simp) rfl); obtain rfl := hI.wp; go_simp; exact hI.p 1 4 hI.wp (v := .slice (some ⟨oR, 0, none⟩) N N)
  · intro X a w hX hI
    obtain rfl := hI.wp
    refine hQ a ⟨hI.size, hI.defers, ?_, by simp, trivial⟩
    simp only [List.mem_cons, List.not_mem_nil, or_false, forall_eq_or_imp, forall_eq]
    exact hI.kn (1, 4, .slice (some ⟨oR, 0, none⟩) N N) (by simp) (hX 1 (by simp))
end Go.Proofs.Ytmgiabehooghcaa
namespace Go.Proofs.Ytmgiabehooghcaa
open Go.RowKit Go.Shelf
attribute [local go_sem] Oper.semAt_some

def lvlOf (a : Act) (w : World) : Nat := match a.tmps[6]?.getD undef with | .pointer (some p) => (match w.cell? p with | some (.int _ v) => v.toNat | _ => 0) | _ => 0
section
variable {w0 : World} {Dm : Nat → Prop} {bB lB oB oR : Nat} {X Y Z N g off cap : Nat} {K V : Nat → Nat} {cl : Nat → Bool}
theorem Sp.level {X Y Z : Int} {lvB : Nat} {dl : List Nat} {lev lev' : Nat} {out : List Nat} {Ls : Nat → List Nat} {vs : Nat → Value} {W : World} (h : Sp w0 Dm bB lB oB oR lvB X Y Z N g off cap dl lev out vs Ls W) :
    Sp w0 Dm bB lB oB oR W.heap.size X Y Z N g off cap dl lev' out vs Ls (W.alloc (.cells #[.int .i64 lev'] 3)) := by
  have h2 := h.below ((Below.refl W.heap.size W).alloc (Nat.le_refl _) (.cells #[.int .i64 lev'] 3))
  exact { h2 with lv := Boxed.new W 3 _, nlv := fun m hm e => by have := h.ls.own_lt hm e; omega, nv := h.size }
theorem replicate_count (n : Nat) : (List.replicate n 0).count 0 = n := by simp
structure Outer (w0 : World) (Dm : Nat → Prop) (bB lB oB oR : Nat) (X Y Z N g off cap : Nat) (cl : Nat → Bool) (L0 : Nat → List Nat) (R : List Nat) (a : Act) (W : World) (lev lvB : Nat) (dl : List Nat) (vs : Nat → Value) (Ls : Nat → List Nat) (out : List Nat) : Prop where
  l15 : lev ≤ 15
  ls : ∀ m, m < lev → Ls m = L0 m
  sp : Glow.spreadF (Glow.sides X Y Z) cl L0 lev out (Ls lev) = R
  len : out.length = N
  hi : ∀ i, out.getD i 0 ≤ 15
  lo : ∀ i, out.getD i 0 = 0 ∨ lev < out.getD i 0
  capL : (Ls lev).length ≤ 7 * N
  clt : ∀ s ∈ Ls lev, s < N
  st : Sp w0 Dm bB lB oB oR lvB (X : Int) Y Z N g off cap dl lev out vs Ls W
  fr : RI (B6 bB lB oB lvB) [] 76 (D26 dl) (fun _ _ => True) (fun _ => false) a W
theorem levels_in (n : Nat) (hn : 6 ≤ n) (hc : Cells w0 Dm N g off K V cl) (hNe : N = X * Y * Z) (hX : X ≤ 256) (hY : Y ≤ 256) (hZ : Z ≤ 256) (L0 : Nat → List Nat) (hL : ∀ m, m < 16 → (L0 m).length ≤ N ∧ ∀ s ∈ L0 m, s < N)
    (lvB : Nat) (vs : Nat → Value) (W : World) (hS : Sp w0 Dm bB lB oB oR lvB (X : Int) Y Z N g off cap [] 15 (List.replicate N 0) vs L0 W) (a : Act) (ha : RI (B6 bB lB oB lvB) [] 76 (D26 []) (fun _ _ => True) (fun _ => false) a W) (Q : Exit → Act → World → Prop)
    (hQ : ∀ a' W' lvB' dl' vs' Ls', RI (B6 bB lB oB lvB') [] 76 (D26 dl') (fun _ _ => True) (fun _ => false) a' W' →
      Sp w0 Dm bB lB oB oR lvB' (X : Int) Y Z N g off cap dl' 0 (Glow.spreadF (Glow.sides X Y Z) cl L0 15 (List.replicate N 0) (L0 15)) vs' Ls' W' → Q .normal a' W') :
    (Code.block 0 (.loop Lp1)).wpIn Fence.wide n Try.prog Q a W := by
  generalize hR : Glow.spreadF (Glow.sides X Y Z) cl L0 15 (List.replicate N 0) (L0 15) = R at hQ
  have h0 : Outer w0 Dm bB lB oB oR X Y Z N g off cap cl L0 R a W 15 lvB [] vs L0 (List.replicate N 0) :=
    { l15 := Nat.le_refl _, ls := fun _ _ => rfl, sp := hR, len := List.length_replicate, hi := fun i => by rw [Glow.getD_replicate]; omega, lo := fun i => .inl (Glow.getD_replicate N i)
      capL := by have := (hL 15 (by omega)).1; omega, clt := (hL 15 (by omega)).2, st := hS, fr := ha }
  refine wpIn_block (wpIn_loop (fun a W => ∃ lev lvB dl vs Ls out, Outer w0 Dm bB lB oB oR X Y Z N g off cap cl L0 R a W lev lvB dl vs Ls out) lvlOf ⟨15, lvB, [], vs, L0, List.replicate N 0, h0⟩ ?_)
  clear hS ha hR h0
  rintro a W ⟨lev, lvB, dl, vs, Ls, out, hO⟩
  obtain ⟨hl15, hLs, hsp, hlen, hhi, hlo, hcap, hclt, hS, ha⟩ := hO
  have hlvl : ∀ (a : Act) (W : World) (lvB lev : Nat), a.tmps[6]?.getD undef = .pointer (some ⟨lvB, 0, none⟩) → W.cell? ⟨lvB, 0, none⟩ = some (.int .i64 lev) → lvlOf a W = lev := fun a W lvB lev h1 h2 => by
    unfold lvlOf; rw [h1]; simp only [h2]; exact Int.toNat_natCast lev
  have e6 := hlvl a W lvB lev (ha.inp (6, .pointer (some ⟨lvB, 0, none⟩)) (by simp [B6])) hS.lv.cell
  unfold Lp1
  refine wpIn_seq (wpIn_seq ?_)
  refine r3 n W bB lB oB lvB lev hS.lv.cell (D26 dl) _ a (ha.sub (fun p hp => hp) trivial) ?_
  intro a1 h1
  have h15 := h1.inp (15, .bool (decide (0 < lev))) (by simp)
  refine wpIn_cond (t := decide (0 < lev)) (by rw [eval_tmp]; exact h15) ?_
  have h1' : RI (B6 bB lB oB lvB) [] 76 (D26 dl) (fun _ _ => True) (fun _ => false) a1 W := h1.sub (by
    intro p hp
    unfold B6 at hp
    simp only [List.mem_cons, List.not_mem_nil, or_false] at hp ⊢
    rcases hp with h | h | h | h <;> simp [h]) trivial
  by_cases hp : 0 < lev
  · rw [decide_eq_true hp]
    refine wpIn_skip ?_
    simp only [Exit.then]
    have hlev : 1 ≤ lev ∧ lev ≤ 15 := ⟨hp, hl15⟩
    have hP : Pure N lev out (L0 (lev - 1)) := by
      refine ⟨hlen, hhi, fun i => by rcases hlo i with e | e <;> omega, ?_, (hL (lev - 1) (by omega)).2⟩
      have h1 := (hL (lev - 1) (by omega)).1
      have h2 : out.count 0 ≤ out.length := List.count_le_length
      omega
    have hS' : Sp w0 Dm bB lB oB oR lvB (X : Int) Y Z N g off cap dl lev out vs (upd Ls (lev - 1) (L0 (lev - 1))) W := by
      have : upd Ls (lev - 1) (L0 (lev - 1)) = Ls := by
        funext j; unfold upd; split
        · rename_i h; rw [h]; exact (hLs _ (by omega)).symm
        · rfl
      rw [this]; exact hS
    refine wpIn_seq (wpIn_block (wpIn_seq ?_))
    refine r5 n W bB lB oB lvB (D26 dl) _ a1 (h1'.sub (fun p hp => hp) trivial) ?_
    intro a2 h2
    refine list_in (Ls := Ls) (cur := Ls lev) (out := out) (nl := L0 (lev - 1)) (vs := vs) (dl := dl) (W := W) n hn hc hlev hNe hX hY hZ rfl hclt (by have := hc.n; omega) hP hS' a2 (h2.sub (fun p hp => hp) trivial) _ ?_
    intro a3 W3 dl3 vs3 h3 hP3 hS3
    simp only [Exit.inBlock]
    generalize hp3 : (Ls lev).foldl (Glow.stepF (Glow.sides X Y Z) cl lev) (out, L0 (lev - 1)) = p at hP3 hS3
    refine wpIn_seq (wpIn_seq ?_)
    refine r15 n W3 bB lB oB lvB lev hS3.lv.cell (D26 dl3) _ a3 (h3.sub (fun p hp => hp) trivial) ?_
    intro a4 h4
    refine r16 n W3 bB lB oB lev (D26 dl3) _ a4 (h4.sub (by
      intro p hp
      simp only [List.mem_cons, List.not_mem_nil, or_false] at hp ⊢
      rcases hp with h | h | h | h <;> simp [h]) trivial) ?_
    intro a5 h5
    have hS5 := hS3.level (lev' := lev)
    simp only [Exit.then]
    refine r4 n _ bB lB oB W3.heap.size lev hlev hS5.lv.cell hS5.lv.frozen (D26 dl3) _ a5 (h5.sub (by
      intro p hp
      simp only [List.mem_cons, List.not_mem_nil, or_false] at hp ⊢
      rcases hp with h | h | h | h <;> simp [h]) trivial) ?_
    intro a6 h6
    have ew : (W3.alloc (.cells #[.int .i64 lev] 3)).setCell ⟨W3.heap.size, 0, none⟩ (.int .i64 ((lev : Int) - 1)) = W3.alloc (.cells #[.int .i64 ((lev - 1 : Nat) : Int)] 3) := by
      rw [alloc_set, show (lev : Int) - 1 = ((lev - 1 : Nat) : Int) from by omega]
    rw [ew] at h6 ⊢
    have hS6 := hS3.level (lev' := lev - 1)
    refine ⟨⟨lev - 1, W3.heap.size, dl3, vs3, upd Ls (lev - 1) p.2, p.1, by omega, fun m hm => ?_, ?_, hP3.len, hP3.hi, fun i => ?_, ?_, ?_, hS6, h6.sub (fun p hp => hp) trivial⟩, ?_⟩
    · rw [upd_ne _ _ (by omega)]; exact hLs m (by omega)
    · rw [upd_same]
      obtain ⟨l, rfl⟩ : ∃ l, lev = l + 1 := ⟨lev - 1, by omega⟩
      rw [← hsp]
      show Glow.spreadF _ _ _ l p.1 p.2 = Glow.spreadF _ _ _ (l + 1) out (Ls (l + 1))
      have hp3' : (Ls (l + 1)).foldl (Glow.stepF (Glow.sides X Y Z) cl (l + 1)) (out, L0 l) = p := hp3
      conv => rhs; unfold Glow.spreadF
      rw [hp3']
    · rcases hP3.lo i with e | e <;> omega
    · rw [upd_same]; have := hP3.cap; omega
    · rw [upd_same]; exact hP3.nlt
    · rw [e6, hlvl a6 _ W3.heap.size (lev - 1) (h6.inp (6, .pointer (some ⟨W3.heap.size, 0, none⟩)) (by simp)) hS6.lv.cell]; omega
  · rw [decide_eq_false hp]
    refine wpIn_exit ?_
    have h0 : lev = 0 := by omega
    subst h0
    have : out = R := hsp
    rw [this] at hS
    show Q .normal a1 W
    exact hQ a1 W lvB dl vs Ls h1' hS
end
end Go.Proofs.Ytmgiabehooghcaa
namespace Go.Proofs.Ytmgiabehooghcaa
open Go.RowKit Go.Shelf
attribute [local go_sem] Oper.semAt_some

def StepsSq (F : Fence) (n : Nat) (P : Program) (ops : Array Oper) (Q : Exit → Act → World → Prop) (I : Nat → Act → World → Prop) : Nat → List Oper → Prop
  | _, [] => True
  | k, o :: r => (∀ a w, I k a w → if Region.wanted o (yielded ops a.tmps) then o.wpIn F n P a w (I (k + 1)) Q else (∀ f, o.about P w a.eval = some f → F.fn f) ∧ I (k + 1) (a.put o.dst undef) w) ∧ StepsSq F n P ops Q I (k + 1) r
theorem region_sq {F : Fence} {n : Nat} {P : Program} {ops : Array Oper} {Q : Exit → Act → World → Prop} {id : Nat} {a : Act} {w : World} (I : Nat → Act → World → Prop)
    (h0 : I 0 a w) (hs : StepsSq F n P ops Q I 0 ops.toList) (hend : ∀ a w, I ops.size a w → Q .normal a w) : (Code.region id ops false).wpIn F n P Q a w := by
  refine wpIn_region_list ?_
  have key : ∀ (r : List Oper) (k : Nat) (a : Act) (w : World), k + r.length = ops.size → StepsSq F n P ops Q I k r → I k a w → wpListIn F n P ops Q r a w := by
    intro r
    induction r with
    | nil => intro k a w hk _ hI; rw [show k = ops.size from by simpa using hk] at hI; exact hend a w hI
    | cons o r ih =>
      intro k a w hk hs hI
      have hst := hs.1 a w hI
      unfold wpListIn
      split
      · rename_i hw
        rw [if_pos hw] at hst
        exact Oper.wpIn_mono (fun a' w' h' => ih (k + 1) a' w' (by simp at hk; omega) hs.2 h') hst
      · rename_i hw
        rw [if_neg hw] at hst
        exact ⟨hst.1, ih (k + 1) _ _ (by simp at hk; omega) hs.2 hst.2⟩
  exact key ops.toList 0 a w (by simp) hs h0
structure SR (kn : List (Nat × Value)) (sz : Nat) (ds : List Deferred) (W : World) (a : Act) (w : World) : Prop where
  size : a.tmps.size = sz
  defers : a.defers = ds
  kn : ∀ p ∈ kn, a.tmps[p.1]?.getD undef = p.2
  wp : w = W
theorem SR.put {kn kn2 : List (Nat × Value)} {sz : Nat} {ds : List Deferred} {W : World} {a : Act} {w w' : World} (h : SR kn sz ds W a w) {d : Nat} {v : Value} (hd : d < sz) (h2 : ∀ p ∈ kn2, p.1 = d ∧ p.2 = v ∨ p.1 ≠ d ∧ p ∈ kn) : SR kn2 sz ds w' { tmps := a.tmps.setIfInBounds d v, defers := a.defers } w' where
  size := by simpa using h.size
  defers := h.defers
  kn := fun p hp => by
    have := put_getD a d p.1 v (by rw [h.size]; exact hd)
    rw [show ({ tmps := a.tmps.setIfInBounds d v, defers := a.defers } : Act) = a.put (some d) v from rfl, this]
    rcases h2 p hp with ⟨h1, h3⟩ | ⟨h1, h3⟩
    · rw [if_pos h1, h3]
    · rw [if_neg h1]; exact h.kn p h3
  wp := rfl
theorem SR.s {kn kn2 : List (Nat × Value)} {sz : Nat} {ds : List Deferred} {W : World} {a : Act} {w w' : World} (h : SR kn sz ds W a w) (d : Nat) {v : Value} (hd : d < sz := by decide) (h2 : ∀ p ∈ kn2, p.1 = d ∧ p.2 = v ∨ p.1 ≠ d ∧ p ∈ kn := by simp) : SR kn2 sz ds w' { tmps := a.tmps.setIfInBounds d v, defers := a.defers } w' := h.put hd h2
theorem SR.none {kn : List (Nat × Value)} {sz : Nat} {ds : List Deferred} {W : World} {a : Act} {w w' : World} (h : SR kn sz ds W a w) : SR kn sz ds w' a w' := ⟨h.size, h.defers, h.kn, rfl⟩
theorem SR.sub {kn kn' : List (Nat × Value)} {sz : Nat} {ds : List Deferred} {W : World} {a : Act} {w : World} (h : SR kn sz ds W a w) (hs : ∀ p ∈ kn', p ∈ kn) : SR kn' sz ds W a w := ⟨h.size, h.defers, fun p hp => h.kn p (hs p hp), h.wp⟩
theorem SR.g {kn : List (Nat × Value)} {sz : Nat} {ds : List Deferred} {W : World} {a : Act} {w : World} (h : SR kn sz ds W a w) (t : Nat) {v : Value} (hp : kn.lookup t = some v) : a.tmps[t]?.getD undef = v := h.kn _ (mem_of_lookup hp)
theorem SR.ri {kn : List (Nat × Value)} {sz : Nat} {ds : List Deferred} {W : World} {a : Act} {w : World} (h : SR kn sz ds W a w) : RI kn [] sz ds (fun _ _ => True) (fun _ => false) a w := ⟨h.size, h.defers, h.kn, by simp, trivial⟩
theorem RI.sr {kn : List (Nat × Value)} {sz : Nat} {ds : List Deferred} {a : Act} {w : World} {Wp : (Nat → Bool) → World → Prop} {X : Nat → Bool} (h : RI kn [] sz ds Wp X a w) : SR kn sz ds w a w := ⟨h.size, h.defers, h.inp, rfl⟩
theorem info5 : (Try.prog.info? 5).map (fun i => (i.zero, i.size, i.bytes)) = some (some (.int .u8 0), 1, 1) := by kernel_rfl
theorem under54 : Try.prog.underlying 54 = some (.slice 5) := by kernel_rfl
theorem r0 (n : Nat) (W : World) (X Y Z : Int) (cv : Value) (vsA : Array Value) (ds : List Deferred) (Q : Exit → Act → World → Prop) (a : Act) (h0 : SR [(0, .agg #[.int .i64 X, .int .i64 Y, .int .i64 Z, cv]), (1, .agg vsA)] 76 ds W a W)
    (hQ : ∀ a, SR [(2, .pointer (some ⟨W.heap.size, 0, none⟩)), (3, .pointer (some ⟨W.heap.size + 1, 0, none⟩))] 76 ds ((W.alloc (.cells #[.int .i64 X, .int .i64 Y, .int .i64 Z, cv] 24)).alloc (.cells vsA 53)) a ((W.alloc (.cells #[.int .i64 X, .int .i64 Y, .int .i64 Z, cv] 24)).alloc (.cells vsA 53)) → Q .normal a ((W.alloc (.cells #[.int .i64 X, .int .i64 Y, .int .i64 Z, cv] 24)).alloc (.cells vsA 53))) : (regOf 0 C26).wpIn Fence.wide n Try.prog Q a W := by
  simp only [regOf, C26, Try.f26, Option.getD, Nat.reduceBEq, Bool.false_eq_true, if_true, if_false]
  refine region_sq (fun k a w => match k with | 0 => SR [(0, .agg #[.int .i64 X, .int .i64 Y, .int .i64 Z, cv]), (1, .agg vsA)] 76 ds W a w | 1 => SR [(0, .agg #[.int .i64 X, .int .i64 Y, .int .i64 Z, cv]), (1, .agg vsA), (2, .pointer (some ⟨W.heap.size, 0, none⟩))] 76 ds (W.alloc (.cells #[.int .i64 X, .int .i64 Y, .int .i64 Z, cv] 24)) a w | 2 => SR [(2, .pointer (some ⟨W.heap.size, 0, none⟩)), (3, .pointer (some ⟨W.heap.size + 1, 0, none⟩))] 76 ds ((W.alloc (.cells #[.int .i64 X, .int .i64 Y, .int .i64 Z, cv] 24)).alloc (.cells vsA 53)) a w | _ => SR [(2, .pointer (some ⟨W.heap.size, 0, none⟩)), (3, .pointer (some ⟨W.heap.size + 1, 0, none⟩))] 76 ds ((W.alloc (.cells #[.int .i64 X, .int .i64 Y, .int .i64 Z, cv] 24)).alloc (.cells vsA 53)) a w) h0 ⟨?_, ?_, ?_, trivial⟩ ?_
  · intro a w (hI : SR _ _ _ _ a w); have e0 := hI.g 0 rfl; obtain rfl := hI.wp; go_simp; exact hI.s 2
  · intro a w (hI : SR _ _ _ _ a w); have e1 := hI.g 1 rfl
    obtain rfl : w = W.alloc (.cells #[.int .i64 X, .int .i64 Y, .int .i64 Z, cv] 24) := hI.wp
    go_simp; exact hI.s 3
  · intro a w (hI : SR _ _ _ _ a w)
    obtain rfl : w = (W.alloc (.cells #[.int .i64 X, .int .i64 Y, .int .i64 Z, cv] 24)).alloc (.cells vsA 53) := hI.wp
    go_simp; exact hI.s 4
  · intro a w hI
    obtain rfl := hI.wp
    exact hQ a hI
theorem r1 (n : Nat) (W : World) (bB lB N g off cap : Nat) (hN : N ≤ 262144) (c3 : W.cell? ⟨bB, 3, none⟩ = some (.slice (some ⟨g, off, none⟩) N cap)) (ds : List Deferred) (Q : Exit → Act → World → Prop) (a : Act) (h0 : SR [(2, .pointer (some ⟨bB, 0, none⟩)), (3, .pointer (some ⟨lB, 0, none⟩))] 76 ds W a W)
    (hQ : ∀ a, SR [(2, .pointer (some ⟨bB, 0, none⟩)), (3, .pointer (some ⟨lB, 0, none⟩)), (5, .pointer (some ⟨W.heap.size + 1, 0, none⟩))] 76 ds ((W.alloc (.cells (madeCells #[.int .u8 0] N) 5)).alloc (.cells #[.slice (some ⟨W.heap.size, 0, none⟩) N N] 54)) a ((W.alloc (.cells (madeCells #[.int .u8 0] N) 5)).alloc (.cells #[.slice (some ⟨W.heap.size, 0, none⟩) N N] 54)) → Q .normal a ((W.alloc (.cells (madeCells #[.int .u8 0] N) 5)).alloc (.cells #[.slice (some ⟨W.heap.size, 0, none⟩) N N] 54))) : (regOf 1 C26).wpIn Fence.wide n Try.prog Q a W := by
  obtain ⟨i0, hi, hz0, hz1, hz2⟩ := info_parts info5
  have hmk := run_make (P := Try.prog) W 54 5 i0 (.int .u8 0) under54 hi hz0 .i64 .i64 N N (by omega) (Int.le_refl _) (by rw [hz2]; omega) (by omega)
  rw [Int.toNat_natCast, hz1, Nat.mul_one] at hmk
  replace hmk : (Instr.makeSlice 54 (.int .i64 N) (.int .i64 N)).run Try.prog W = .ok (.slice (some ⟨W.heap.size, 0, none⟩) N N) (W.alloc (.cells (madeCells #[.int .u8 0] N) 5)) := hmk
  simp only [regOf, C26, Try.f26, Option.getD, Nat.reduceBEq, Bool.false_eq_true, if_true, if_false]
  refine region_sq (fun k a w => match k with | 0 => SR [(2, .pointer (some ⟨bB, 0, none⟩)), (3, .pointer (some ⟨lB, 0, none⟩))] 76 ds W a w | 1 => SR [(2, .pointer (some ⟨bB, 0, none⟩)), (3, .pointer (some ⟨lB, 0, none⟩)), (10, .pointer (some ⟨bB, 3, none⟩))] 76 ds W a w | 2 => SR [(2, .pointer (some ⟨bB, 0, none⟩)), (3, .pointer (some ⟨lB, 0, none⟩)), (11, .slice (some ⟨g, off, none⟩) N cap)] 76 ds W a w | 3 => SR [(2, .pointer (some ⟨bB, 0, none⟩)), (3, .pointer (some ⟨lB, 0, none⟩)), (12, .int .i64 N)] 76 ds W a w | 4 => SR [(2, .pointer (some ⟨bB, 0, none⟩)), (3, .pointer (some ⟨lB, 0, none⟩)), (13, .slice (some ⟨W.heap.size, 0, none⟩) N N)] 76 ds (W.alloc (.cells (madeCells #[.int .u8 0] N) 5)) a w | 5 => SR [(2, .pointer (some ⟨bB, 0, none⟩)), (3, .pointer (some ⟨lB, 0, none⟩)), (13, .slice (some ⟨W.heap.size, 0, none⟩) N N), (5, .pointer (some ⟨W.heap.size + 1, 0, none⟩))] 76 ds ((W.alloc (.cells (madeCells #[.int .u8 0] N) 5)).alloc (.cells #[.slice none 0 0] 54)) a w | _ => SR [(2, .pointer (some ⟨bB, 0, none⟩)), (3, .pointer (some ⟨lB, 0, none⟩)), (13, .slice (some ⟨W.heap.size, 0, none⟩) N N), (5, .pointer (some ⟨W.heap.size + 1, 0, none⟩))] 76 ds ((W.alloc (.cells (madeCells #[.int .u8 0] N) 5)).alloc (.cells #[.slice (some ⟨W.heap.size, 0, none⟩) N N] 54)) a w) h0 ⟨?_, ?_, ?_, ?_, ?_, ?_, trivial⟩ ?_
  · intro a w (hI : SR _ _ _ _ a w); have e2 := hI.g 2 rfl; obtain rfl := hI.wp; go_simp; exact hI.s 10
  · intro a w (hI : SR _ _ _ _ a w); have e10 := hI.g 10 rfl; obtain rfl := hI.wp
    clear hmk
    go_simp; exact hI.s 11
  · intro a w (hI : SR _ _ _ _ a w); have e11 := hI.g 11 rfl; obtain rfl := hI.wp
    clear hmk
    go_simp; exact hI.s 12
  · intro a w (hI : SR _ _ _ _ a w); have e12 := hI.g 12 rfl; obtain rfl := hI.wp; go_simp; exact hI.s 13
  · intro a w (hI : SR _ _ _ _ a w)
    obtain rfl : w = W.alloc (.cells (madeCells #[.int .u8 0] N) 5) := hI.wp
    clear hmk
    go_simp; exact hI.s 5
  · intro a w (hI : SR _ _ _ _ a w); have e5 := hI.g 5 rfl; have e13 := hI.g 13 rfl
    obtain rfl : w = (W.alloc (.cells (madeCells #[.int .u8 0] N) 5)).alloc (.cells #[.slice none 0 0] 54) := hI.wp
    clear hmk
    have hn := Boxed.new (W.alloc (.cells (madeCells #[.int .u8 0] N) 5)) 54 (.slice none 0 0)
    have hn1 := hn.cell
    have hn2 := hn.frozen
    have hn3 := alloc_set (W.alloc (.cells (madeCells #[.int .u8 0] N) 5)) 54 (.slice none 0 0) (.slice (some ⟨W.heap.size, 0, none⟩) N N)
    rw [World.size_alloc] at hn1 hn2 hn3
    go_simp
    exact hI.none
  · intro a w (hI : SR _ _ _ _ a w)
    obtain rfl : w = (W.alloc (.cells (madeCells #[.int .u8 0] N) 5)).alloc (.cells #[.slice (some ⟨W.heap.size, 0, none⟩) N N] 54) := hI.wp
    exact hQ a (hI.sub (by intro p hp; simp only [List.mem_cons, List.not_mem_nil, or_false] at hp ⊢; rcases hp with h | h | h <;> simp [h]))
theorem r2 (n : Nat) (W : World) (bB lB oB : Nat) (ds : List Deferred) (Q : Exit → Act → World → Prop) (a : Act) (h0 : SR [(2, .pointer (some ⟨bB, 0, none⟩)), (3, .pointer (some ⟨lB, 0, none⟩)), (5, .pointer (some ⟨oB, 0, none⟩))] 76 ds W a W)
    (hQ : ∀ a, SR [(2, .pointer (some ⟨bB, 0, none⟩)), (3, .pointer (some ⟨lB, 0, none⟩)), (5, .pointer (some ⟨oB, 0, none⟩)), (6, .pointer (some ⟨W.heap.size, 0, none⟩))] 76 ds (W.alloc (.cells #[.int .i64 15] 3)) a (W.alloc (.cells #[.int .i64 15] 3)) → Q .normal a (W.alloc (.cells #[.int .i64 15] 3))) : (regOf 2 C26).wpIn Fence.wide n Try.prog Q a W := by
  simp only [regOf, C26, Try.f26, Option.getD, Nat.reduceBEq, Bool.false_eq_true, if_true, if_false]
  refine region_sq (fun k a w => match k with | 0 => SR [(2, .pointer (some ⟨bB, 0, none⟩)), (3, .pointer (some ⟨lB, 0, none⟩)), (5, .pointer (some ⟨oB, 0, none⟩))] 76 ds W a w | 1 => SR [(2, .pointer (some ⟨bB, 0, none⟩)), (3, .pointer (some ⟨lB, 0, none⟩)), (5, .pointer (some ⟨oB, 0, none⟩)), (6, .pointer (some ⟨W.heap.size, 0, none⟩))] 76 ds (W.alloc (.cells #[.int .i64 0] 3)) a w | _ => SR [(2, .pointer (some ⟨bB, 0, none⟩)), (3, .pointer (some ⟨lB, 0, none⟩)), (5, .pointer (some ⟨oB, 0, none⟩)), (6, .pointer (some ⟨W.heap.size, 0, none⟩))] 76 ds (W.alloc (.cells #[.int .i64 15] 3)) a w) h0 ⟨?_, ?_, trivial⟩ ?_
  · intro a w (hI : SR _ _ _ _ a w); obtain rfl := hI.wp; go_simp; exact hI.s 6
  · intro a w (hI : SR _ _ _ _ a w); have e6 := hI.g 6 rfl
    obtain rfl : w = W.alloc (.cells #[.int .i64 0] 3) := hI.wp
    have hn := Boxed.new W 3 (.int .i64 0)
    have hn1 := hn.cell
    have hn2 := hn.frozen
    have hn3 := alloc_set W 3 (.int .i64 0) (.int .i64 15)
    go_simp
    exact hI.none
  · intro a w hI
    obtain rfl := hI.wp
    exact hQ a hI
end Go.Proofs.Ytmgiabehooghcaa
namespace Go.Proofs.Ytmgiabehooghcaa
open Go.RowKit Go.Shelf
attribute [local go_sem] Oper.semAt_some

theorem heap_alloc_if (w : World) (o : Obj) (k : Nat) : (w.alloc o).heap[k]? = if k = w.heap.size then some o else w.heap[k]? := by
  by_cases h : k = w.heap.size
  · subst h; rw [if_pos rfl]; exact World.alloc_heap_new w o
  · rw [if_neg h]
    rcases Nat.lt_or_ge k w.heap.size with h1 | h1
    · exact Below.heap_alloc w o k h1
    · rw [Array.getElem?_eq_none (by simp; omega), Array.getElem?_eq_none (by omega)]
theorem leaves_all {fn : Func} {tmps : Array Value} {R : Ending → World → Prop} {n : Nat} {v : Value} (hres : ∀ w, (results fn tmps).run Try.prog w = .ok v w) : ∀ (dl : List Nat) (W : World), dl.Nodup → (∀ d ∈ dl, W.heap[d]? = some (.deferred (some []))) →
    (∀ W', W'.os = W.os → W'.tape = W.tape → W'.output = W.output → W.heap.size ≤ W'.heap.size → (∀ k, k ∉ dl → W'.heap[k]? = W.heap[k]?) → R (.returned v) W') → LeavesInM Fence.wide n Try.prog fn tmps R (D26 dl) .returning W
  | [], W, _, _, hR => ⟨v, hres W, hR W rfl rfl rfl (Nat.le_refl _) (fun _ _ => rfl)⟩
  | d :: dl, W, hnd, hd, hR => by
    obtain ⟨hn1, hn2⟩ := List.nodup_cons.1 hnd
    have h0 := hd d (by simp)
    refine ⟨by simp, .inl ⟨d, _, rfl, run_takeDeferred h0, ?_⟩⟩
    refine leaves_all hres dl _ hn2 (fun k hk => (World.putObj_heap_other (fun e => hn1 (by rw [← e]; exact hk))).trans (hd k (by simp [hk]))) ?_
    intro W' h1 h2 h3 h4 h5
    refine hR W' h1 h2 h3 (by simpa using h4) fun k hk => ?_
    have hk' : k ≠ d ∧ k ∉ dl := by simpa using hk
    exact (h5 k hk'.2).trans (World.putObj_heap_other hk'.1)
theorem made_bytes (N : Nat) : madeCells #[Value.int .u8 0] N = (bytesV (List.replicate N 0)).toArray := by
  apply Array.ext
  · simp [madeCells, bytesV]
  · intro i h1 h2
    have : i % 1 = 0 := Nat.mod_one i
    simp [madeCells, bytesV, this]
theorem spread_in (n : Nat) (hn : 6 ≤ n) {w0 : World} {Dm : Nat → Prop} {X Y Z N g off cap : Nat} {K V : Nat → Nat} {cl : Nat → Bool} (hc : Cells w0 Dm N g off K V cl) (hNe : N = X * Y * Z) (hX : X ≤ 256) (hY : Y ≤ 256) (hZ : Z ≤ 256)
    (L0 : Nat → List Nat) (hL : ∀ m, m < 16 → (L0 m).length ≤ N ∧ ∀ s ∈ L0 m, s < N) (vs : Nat → Value) (vsA : Array Value) (hA : vsA.size = 16) (hvs : ∀ m, m < 16 → vsA[m]? = some (vs m))
    (hrow : ∀ m, m < 16 → w0.ownsRow 0 3 1 (vs m) (L0 m).length (intsV (L0 m))) (hap : ∀ m m', m < 16 → m' < 16 → m ≠ m' → ∀ k, (vs m).ownBlock = some k → (vs m').ownBlock ≠ some k) (hdm : ∀ m, m < 16 → ∀ k, (vs m).ownBlock = some k → Dm k) :
    CallsIn Fence.wide n Try.prog 26 #[.agg #[.int .i64 X, .int .i64 Y, .int .i64 Z, .slice (some ⟨g, off, none⟩) N cap], .agg vsA] w0 fun e W' => ∃ oR, e = .returned (.slice (some ⟨oR, 0, none⟩) N N) ∧ w0.heap.size ≤ oR ∧
      W'.heap[oR]? = some (.cells (bytesV (Glow.spreadF (Glow.sides X Y Z) cl L0 15 (List.replicate N 0) (L0 15))).toArray 5 (0, 0)) ∧ W'.os = w0.os ∧ W'.tape = w0.tape ∧ W'.output = w0.output ∧ w0.heap.size ≤ W'.heap.size ∧ (∀ k, k < w0.heap.size → ¬ Dm k → W'.heap[k]? = w0.heap[k]?) := by
  refine callsIn_of_wp_marks Try.func26 rfl trivial ?_
  show C26.wpIn _ _ _ _ _ _
  rw [C26_eq]
  refine wpIn_seq ?_
  refine r0 n w0 X Y Z (.slice (some ⟨g, off, none⟩) N cap) vsA [] _ _ ⟨by simp [Try.ntmps26], rfl, by simp [Try.ntmps26], rfl⟩ ?_
  intro a1 h1
  refine wpIn_seq ?_
  generalize hWa : (w0.alloc (.cells #[.int .i64 X, .int .i64 Y, .int .i64 Z, .slice (some ⟨g, off, none⟩) N cap] 24)).alloc (.cells vsA 53) = Wa at h1 ⊢
  have hWaS : Wa.heap.size = w0.heap.size + 2 := by rw [← hWa]; simp
  have hWah : ∀ k, Wa.heap[k]? = if k = w0.heap.size + 1 then some (.cells vsA 53) else if k = w0.heap.size then some (.cells #[.int .i64 X, .int .i64 Y, .int .i64 Z, .slice (some ⟨g, off, none⟩) N cap] 24) else w0.heap[k]? := fun k => by
    rw [← hWa, heap_alloc_if, heap_alloc_if]; simp
  have hWo : Wa.os = w0.os ∧ Wa.tape = w0.tape ∧ Wa.output = w0.output := by rw [← hWa]; exact ⟨rfl, rfl, rfl⟩
  refine r1 n Wa w0.heap.size (w0.heap.size + 1) N g off cap hc.n (by simp [World.cell?, hWah]) [] _ a1 ⟨h1.size, h1.defers, h1.kn, rfl⟩ ?_
  intro a2 h2
  generalize hWb : (Wa.alloc (.cells (madeCells #[.int .u8 0] N) 5)).alloc (.cells #[.slice (some ⟨Wa.heap.size, 0, none⟩) N N] 54) = Wb at h2 ⊢
  have hWbS : Wb.heap.size = w0.heap.size + 4 := by rw [← hWb]; simp [hWaS]
  have hWbh : ∀ k, Wb.heap[k]? = if k = w0.heap.size + 3 then some (.cells #[.slice (some ⟨w0.heap.size + 2, 0, none⟩) N N] 54) else if k = w0.heap.size + 2 then some (.cells (madeCells #[.int .u8 0] N) 5) else Wa.heap[k]? := fun k => by
    rw [← hWb, heap_alloc_if, heap_alloc_if]; simp [hWaS]
  have hWo2 : Wb.os = w0.os ∧ Wb.tape = w0.tape ∧ Wb.output = w0.output := by rw [← hWb]; exact hWo
  refine wpIn_seq (wpIn_seq ?_)
  rw [hWaS] at h2
  refine r2 n Wb w0.heap.size (w0.heap.size + 1) (w0.heap.size + 3) [] _ a2 ⟨h2.size, h2.defers, h2.kn, rfl⟩ ?_
  intro a3 h3
  generalize hWc : Wb.alloc (.cells #[.int .i64 15] 3) = Wc at h3 ⊢
  have hWcS : Wc.heap.size = w0.heap.size + 5 := by rw [← hWc]; simp [hWbS]
  have hWch : ∀ k, Wc.heap[k]? = if k = w0.heap.size + 4 then some (.cells #[.int .i64 15] 3) else Wb.heap[k]? := fun k => by
    rw [← hWc, heap_alloc_if]; simp [hWbS]
  have hWo3 : Wc.os = w0.os ∧ Wc.tape = w0.tape ∧ Wc.output = w0.output := by rw [← hWc]; exact hWo2
  rw [hWbS] at h3
  have hold : ∀ k, k < w0.heap.size → Wc.heap[k]? = w0.heap[k]? := fun k hk => by
    rw [hWch, if_neg (by omega), hWbh, if_neg (by omega), if_neg (by omega), hWah, if_neg (by omega), if_neg (by omega)]
  have hown : ∀ m, m < 16 → ∀ k, (vs m).ownBlock = some k → k < w0.heap.size := fun m hm k hk => by
    obtain ⟨cur, h⟩ := ownsRow_blk (hrow m hm) hk
    exact (Array.getElem?_eq_some_iff.1 h).1
  have hS : Sp w0 Dm w0.heap.size (w0.heap.size + 1) (w0.heap.size + 3) (w0.heap.size + 2) (w0.heap.size + 4) (X : Int) Y Z N g off cap [] 15 (List.replicate N 0) vs L0 Wc :=
    { os := hWo3.1, tape := hWo3.2.1, output := hWo3.2.2, size := by omega, old := fun k hk _ => hold k hk
      bx := by rw [hWch, if_neg (by omega), hWbh, if_neg (by omega), if_neg (by omega), hWah, if_neg (by omega), if_pos rfl]
      ob := by show Wc.heap[_]? = _; rw [hWch, if_neg (by omega), hWbh, if_pos rfl]
      orow := by rw [hWch, if_neg (by omega), hWbh, if_neg (by omega), if_pos rfl, made_bytes]
      lv := by show Wc.heap[_]? = _; rw [hWch, if_pos rfl]; rfl
      ls := { blk := ⟨vsA, by rw [hWch, if_neg (by omega), hWbh, if_neg (by omega), if_neg (by omega), hWah, if_pos rfl], hA, hvs⟩
              rows := fun m hm => ownsRow_same (hrow m hm) fun k hk => hold k (hown m hm k hk), apart := hap }
      dm := fun m hm k hk => .inl (hdm m hm k hk), nlv := fun m hm e => by have := hown m hm _ e; omega
      nb := Nat.le_refl _, nl := by omega, no := by omega, nr := by omega, nv := by omega, df := fun d hd => (by cases hd), nd := List.nodup_nil }
  simp only [Exit.then]
  refine levels_in n hn hc hNe hX hY hZ L0 hL (w0.heap.size + 4) vs Wc hS a3 (h3.ri.sub (fun p hp => hp) trivial) _ ?_
  intro a4 W4 lvB dl vs' Ls' h4 hS4
  simp only [Exit.then]
  refine wpIn_seq ?_
  refine r17 n W4 w0.heap.size (w0.heap.size + 1) (w0.heap.size + 3) (w0.heap.size + 2) N hS4.ob.cell (D26 dl) _ a4 (h4.sub (by
    intro p hp
    unfold B6
    simp only [List.mem_cons, List.not_mem_nil, or_false] at hp ⊢
    rcases hp with h | h | h <;> simp [h]) trivial) ?_
  intro a5 h5
  simp only [Exit.then]
  refine wpIn_ret ?_
  show LeavesInM _ _ _ _ _ _ _ _ _
  rw [h5.defers]
  have e4 := h5.inp (4, .slice (some ⟨w0.heap.size + 2, 0, none⟩) N N) (by simp)
  have hres : ∀ w, (results Try.f26 a5.tmps).run Try.prog w = .ok (.slice (some ⟨w0.heap.size + 2, 0, none⟩) N N) w := fun w => by
    rw [results_tmp (t := 4) rfl, Array.getD_eq_getD_getElem?, e4]
  refine leaves_all hres dl W4 hS4.nd (fun d hd => (hS4.df d hd).2) ?_
  intro W' k1 k2 k3 k4 k5
  have hnd : ∀ k, k ∈ dl → w0.heap.size ≤ k := fun k hk => (hS4.df k hk).1
  refine ⟨w0.heap.size + 2, rfl, by omega, ?_, k1.trans hS4.os, k2.trans hS4.tape, k3.trans hS4.output, Nat.le_trans hS4.size k4, fun k hk hd => (k5 k (fun hm => by have := hnd k hm; omega)).trans (hS4.old k hk hd)⟩
  exact (k5 _ (fun hm => by have := (hS4.df _ hm).2; rw [hS4.orow] at this; cases this)).trans hS4.orow
end Go.Proofs.Ytmgiabehooghcaa
