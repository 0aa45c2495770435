/- Glow: regions by hand (for any seat). -/
import Derived.RangeFuncNested
import Derived.RangeFuncBound
import Derived.RangeFuncCalls
import Derived.RangeFuncLeaves
import Derived.Shelf.Abstract
import Derived.Shelf.RegionOpen
import Derived.WalkKit
import Derived.OwnWalkIn
import Derived.TacticsInMore
import Derived.LoopNIn
import Derived.LoopIn
import Derived.Lib.Hide
import Derived.IntWalk
import Derived.Maps.AppendAt
import Derived.Test.YtigblagodlfedaaProg
set_option linter.unusedVariables false
set_option linter.unusedSimpArgs false
namespace Go.Proofs.Ytigblagodlfedaa
open Go.RowKit Go.Shelf
attribute [local go_sem] Oper.semAt_some
theorem eval_tmp (a : Act) (t : Nat) : a.eval (.tmp t) = a.tmps[t]?.getD undef := by simp [Act.eval]
/-- The region of a number. -/
noncomputable def regOf (k : Nat) : Code → Code
  | .seq a b => match regOf k a with | .skip => regOf k b | r => r
  | .block _ c => regOf k c
  | .loop c => regOf k c
  | .cond _ a b => match regOf k a with | .skip => regOf k b | r => r
  | .rangeFunc _ _ a b => match regOf k a with | .skip => regOf k b | r => r
  | .region id ops d => if id == k then .region id ops d else .skip
  | _ => .skip
/-! ### A region that draws its order, by what holds while it is under way -/
def addX (X : Nat → Bool) (k : Nat) : Nat → Bool := fun j => X j || decide (j = k)
@[simp] theorem addX_self (X : Nat → Bool) (k : Nat) : addX X k k = true := by simp [addX]
theorem addX_ne (X : Nat → Bool) {k j : Nat} (h : j ≠ k) : addX X k j = X j := by simp [addX, h]
/-- What is done has been let by. -/
def Closed (ops : Array Oper) (X : Nat → Bool) : Prop := ∀ j o, ops[j]? = some o → X j = true → ∀ e ∈ o.after, Region.binds .any e = true → X e.on = true
/-- One operation goes from what holds to what holds. -/
def StepRI (F : Fence) (n : Nat) (P : Program) (ops : Array Oper) (Q : Exit → Act → World → Prop) (I : (Nat → Bool) → Act → World → Prop) (k : Nat) (o : Oper) : Prop :=
  ∀ X a w, X k = false → (∀ e ∈ o.after, Region.binds .any e = true → X e.on = true) → Closed ops X → I X a w →
    if Region.wanted o (yielded ops a.tmps) then o.wpIn F n P a w (I (addX X k)) Q else (∀ f, o.about P w a.eval = some f → F.fn f) ∧ I (addX X k) (a.put o.dst undef) w
def StepsRI (F : Fence) (n : Nat) (P : Program) (ops : Array Oper) (Q : Exit → Act → World → Prop) (I : (Nat → Bool) → Act → World → Prop) : Nat → List Oper → Prop
  | _, [] => True
  | k, o :: r => StepRI F n P ops Q I k o ∧ StepsRI F n P ops Q I (k + 1) r
theorem StepsRI.get {F : Fence} {n : Nat} {P : Program} {ops : Array Oper} {Q : Exit → Act → World → Prop} {I : (Nat → Bool) → Act → World → Prop} : ∀ {l : List Oper} {k : Nat}, StepsRI F n P ops Q I k l → ∀ j o, l[j]? = some o → StepRI F n P ops Q I (k + j) o
  | [], _, _, j, o, h => by simp at h
  | x :: r, k, hs, 0, o, h => by simp at h; subst h; exact hs.1
  | x :: r, k, hs, j + 1, o, h => by
    have := hs.2.get j o (by simpa using h)
    rwa [show k + 1 + j = k + (j + 1) from by omega] at this
def backO : Nat → List Oper → Bool
  | _, [] => true
  | k, o :: r => o.after.all (fun e => !Region.binds .any e || decide (e.on < k)) && backO (k + 1) r
theorem backO_get : ∀ {l : List Oper} {k : Nat}, backO k l = true → ∀ j o, l[j]? = some o → ∀ e ∈ o.after, Region.binds .any e = true → e.on < k + j
  | [], _, _, j, o, h => by simp at h
  | x :: r, k, hb, 0, o, h => by
    simp only [List.getElem?_cons_zero, Option.some.injEq] at h; subst h
    intro e he hbe
    simp only [backO, Bool.and_eq_true] at hb
    have := (Array.all_eq_true'.1 hb.1) e he
    simpa [hbe] using this
  | x :: r, k, hb, j + 1, o, h => by
    simp only [backO, Bool.and_eq_true] at hb
    have := backO_get hb.2 j o (by simpa using h)
    rwa [show k + 1 + j = k + (j + 1) from by omega] at this
def cntF (listed : Array Bool) : Nat → Nat
  | 0 => 0
  | k + 1 => cntF listed k + if listed.getD k true = false then 1 else 0
theorem getD_set_ne (listed : Array Bool) (d : Bool) {i k : Nat} (h : i ≠ k) : (listed.setIfInBounds i true).getD k d = listed.getD k d := by simp [h]
theorem cntF_le {listed : Array Bool} {i : Nat} : ∀ {k : Nat}, cntF (listed.setIfInBounds i true) k ≤ cntF listed k
  | 0 => Nat.le_refl _
  | k + 1 => by
    have ih := cntF_le (listed := listed) (i := i) (k := k)
    simp only [cntF]
    by_cases hik : i = k
    · subst hik
      have : (listed.setIfInBounds i true).getD i true = true := by
        rcases Nat.lt_or_ge i listed.size with h | h <;> simp [h]
      rw [this]; simp; omega
    · rw [getD_set_ne _ _ hik]; omega
theorem cntF_set {listed : Array Bool} {i : Nat} (hi : listed.getD i true = false) : ∀ {k : Nat}, i < k → cntF (listed.setIfInBounds i true) k + 1 ≤ cntF listed k
  | 0, h => by omega
  | k + 1, h => by
    simp only [cntF]
    by_cases hik : i = k
    · subst hik
      have h1 : (listed.setIfInBounds i true).getD i true = true := by
        rcases Nat.lt_or_ge i listed.size with h | h <;> simp [h]
      have := cntF_le (listed := listed) (i := i) (k := i)
      rw [h1, hi]; simp; omega
    · have ih := cntF_set hi (k := k) (by omega)
      rw [getD_set_ne _ _ hik]; omega
theorem cntF_zero {listed : Array Bool} : ∀ {k : Nat}, cntF listed k = 0 → ∀ i, i < k → listed.getD i true = true
  | 0, _, i, h => by omega
  | k + 1, hc, i, h => by
    simp only [cntF] at hc
    by_cases hik : i = k
    · subst hik
      cases hv : listed.getD i true with
      | true => rfl
      | false => rw [hv] at hc; simp at hc
    · exact cntF_zero (k := k) (by omega) i (by omega)
theorem getD_both {listed : Array Bool} {i : Nat} (hi : i < listed.size) : listed.getD i true = listed.getD i false := by simp [hi]
theorem region_inv {F : Fence} {n : Nat} {P : Program} {ops : Array Oper} {Q : Exit → Act → World → Prop} {id : Nat} {a : Act} {w : World} (I : (Nat → Bool) → Act → World → Prop) (hm : P.follows .mixedOrders = true) (hb : backO 0 ops.toList = true)
    (h0 : I (fun _ => false) a { w with drawn := w.drawn + 1 }) (hs : StepsRI F n P ops Q I 0 ops.toList) (hend : ∀ X a w, (∀ i, i < ops.size → X i = true) → I X a w → Q .normal a w) : (Code.region id ops true).wpIn F n P Q a w := by
  refine wpIn_region_any hm ?_
  have hback : ∀ (j : Nat) (o : Oper), ops[j]? = some o → ∀ e ∈ o.after, Region.binds .any e = true → e.on < j := fun j o ho e he hbe => by
    have := backO_get hb j o (by simpa using ho) e he hbe; omega
  have done : ∀ (listed : Array Bool), listed.size = ops.size → Region.ready .any ops listed = [] → ∀ n i, i < n → i < ops.size → listed.getD i false = true := fun listed hsz hr n => by
    induction n with
    | zero => intro i h; omega
    | succ n ih =>
      intro i hin hi
      cases hv : listed.getD i false with
      | true => rfl
      | false =>
        exfalso
        have ho : ops[i]? = some ops[i] := Array.getElem?_eq_getElem hi
        have : i ∈ Region.ready .any ops listed := mem_ready.2 ⟨by rw [getD_both (by omega)]; exact hv, ops[i], ho, fun e he hbe => ih e.on (by have := hback i _ ho e he hbe; omega) (by have := hback i _ ho e he hbe; omega)⟩
        rw [hr] at this; cases this
  have key : ∀ (fuel : Nat) (listed : Array Bool) (a : Act) (w : World), listed.size = ops.size → cntF listed ops.size ≤ fuel → Closed ops (fun i => listed.getD i false) → I (fun i => listed.getD i false) a w → wpAnyIn F n P .any ops Q fuel listed a w := by
    intro fuel
    induction fuel with
    | zero =>
      intro listed a w hsz hc hC h
      have hall : ∀ i, i < ops.size → listed.getD i false = true := fun i hi => by rw [← getD_both (by omega)]; exact cntF_zero (Nat.le_zero.1 hc) i hi
      refine ⟨?_, hend _ a w hall h⟩
      rcases hr : Region.ready .any ops listed with _ | ⟨i, r⟩
      · rfl
      · have hi : i ∈ Region.ready .any ops listed := by rw [hr]; simp
        obtain ⟨h1, o, h2, _⟩ := mem_ready.1 hi
        have hlt := (Array.getElem?_eq_some_iff.1 h2).1
        rw [getD_both (by omega), hall i hlt] at h1
        cases h1
    | succ fuel ih =>
      intro listed a w hsz hc hC h
      refine ⟨fun hr => hend _ a w (fun i hi => done listed hsz hr (i + 1) i (by omega) hi) h, fun i hi => ?_⟩
      obtain ⟨h1, o, h2, h3⟩ := mem_ready.1 hi
      have hlt := (Array.getElem?_eq_some_iff.1 h2).1
      have hXi : listed.getD i false = false := by rw [← getD_both (by omega)]; exact h1
      have hst := hs.get i o (by simpa using h2)
      rw [Nat.zero_add] at hst
      have hstep := hst _ a w hXi h3 hC h
      have hX : (fun k => (listed.setIfInBounds i true).getD k false) = addX (fun k => listed.getD k false) i := by
        funext k
        by_cases hki : k = i
        · subst hki; simp [addX, show k < listed.size from by omega]
        · simp [addX, hki, Ne.symm hki]
      have hih : ∀ a' w', I (addX (fun k => listed.getD k false) i) a' w' → wpAnyIn F n P .any ops Q fuel (listed.setIfInBounds i true) a' w' := fun a' w' h' =>
        ih _ a' w' (by simp [hsz]) (by have := cntF_set h1 hlt; omega) (by
          rw [hX]
          intro j oj hoj hXj e he hbe
          by_cases hji : j = i
          · subst hji
            rw [h2] at hoj; cases hoj
            have := h3 e he hbe
            simp only [addX, Bool.or_eq_true]; exact .inl this
          · rw [addX_ne _ hji] at hXj
            have := hC j oj hoj hXj e he hbe
            simp only [addX, Bool.or_eq_true]; exact .inl this) (by rw [hX]; exact h')
      unfold wpOpIn
      simp only [h2]
      split
      · rename_i hw
        rw [if_pos hw] at hstep
        exact Oper.wpIn_mono hih hstep
      · rename_i hw
        rw [if_neg hw] at hstep
        exact ⟨hstep.1, hih _ _ hstep.2⟩
  have hrep : ∀ i, (Array.replicate ops.size false).getD i false = false := fun i => by rcases Nat.lt_or_ge i ops.size with h | h <;> simp [h]
  have := key ops.size (Array.replicate ops.size false) a { w with drawn := w.drawn + 1 } (by simp) ?_ (fun j o _ hX => by simp only [hrep] at hX; cases hX) ?_
  · simpa using this
  · have : ∀ k, cntF (Array.replicate ops.size false) k ≤ k := fun k => by
      induction k with
      | zero => exact Nat.le_refl _
      | succ k ih => simp only [cntF]; split <;> omega
    exact this _
  · have : (fun i => (Array.replicate ops.size false).getD i false) = fun _ => false := by
      funext i
      rcases Nat.lt_or_ge i ops.size with h | h <;> simp [h]
    rw [this]; exact h0

/-- What is known of the slots, and of the world. -/
structure RI (inp : List (Nat × Value)) (kn : List (Nat × Nat × Value)) (sz : Nat) (ds : List Deferred) (Wp : (Nat → Bool) → World → Prop) (X : Nat → Bool) (a : Act) (w : World) : Prop where
  size : a.tmps.size = sz
  defers : a.defers = ds
  inp : ∀ p ∈ inp, a.tmps[p.1]?.getD undef = p.2
  kn : ∀ p ∈ kn, X p.1 = true → a.tmps[p.2.1]?.getD undef = p.2.2
  wp : Wp X w
theorem put_getD (a : Act) (d t : Nat) (v : Value) (hd : d < a.tmps.size) : (a.put (some d) v).tmps[t]?.getD undef = if t = d then v else a.tmps[t]?.getD undef := by
  unfold Act.put
  by_cases h : t = d
  · subst h; simp [hd]
  · simp [h, Ne.symm h]
theorem RI.put {inp : List (Nat × Value)} {kn : List (Nat × Nat × Value)} {sz : Nat} {ds : List Deferred} {Wp : (Nat → Bool) → World → Prop} {X : Nat → Bool} {a : Act} {w w' : World} (h : RI inp kn sz ds Wp X a w) {k d : Nat} {v : Value} (hd : d < sz)
    (h1 : ∀ p ∈ inp, p.1 ≠ d) (h2 : ∀ p ∈ kn, (p.1 = k ↔ p.2.1 = d)) (h3 : ∀ p ∈ kn, p.1 = k → p.2.2 = v) (hw : Wp (addX X k) w') : RI inp kn sz ds Wp (addX X k) (a.put (some d) v) w' where
  size := by unfold Act.put; simpa using h.size
  defers := h.defers
  inp := fun p hp => by rw [put_getD _ _ _ _ (by rw [h.size]; exact hd), if_neg (h1 p hp)]; exact h.inp p hp
  kn := fun p hp hx => by
    rw [put_getD _ _ _ _ (by rw [h.size]; exact hd)]
    by_cases e : p.1 = k
    · rw [if_pos ((h2 p hp).1 e)]; exact (h3 p hp e).symm
    · rw [if_neg (fun e' => e ((h2 p hp).2 e'))]
      rw [addX_ne X e] at hx
      exact h.kn p hp hx
  wp := hw
theorem RI.put_none {inp : List (Nat × Value)} {kn : List (Nat × Nat × Value)} {sz : Nat} {ds : List Deferred} {Wp : (Nat → Bool) → World → Prop} {X : Nat → Bool} {a : Act} {w w' : World} (h : RI inp kn sz ds Wp X a w) {k : Nat} {v : Value}
    (h2 : ∀ p ∈ kn, p.1 ≠ k) (hw : Wp (addX X k) w') : RI inp kn sz ds Wp (addX X k) (a.put none v) w' where
  size := h.size
  defers := h.defers
  inp := h.inp
  kn := fun p hp hx => by rw [addX_ne X (h2 p hp)] at hx; exact h.kn p hp hx
  wp := hw

theorem RI.put' {inp : List (Nat × Value)} {kn : List (Nat × Nat × Value)} {sz : Nat} {ds : List Deferred} {Wp : (Nat → Bool) → World → Prop} {X : Nat → Bool} {a : Act} {w w' : World} (h : RI inp kn sz ds Wp X a w) {k d : Nat} {v : Value} (hd : d < sz)
    (h1 : ∀ p ∈ inp, p.1 ≠ d) (h2 : ∀ p ∈ kn, (p.1 = k ↔ p.2.1 = d)) (h3 : ∀ p ∈ kn, p.1 = k → p.2.2 = v) (hw : Wp (addX X k) w') : RI inp kn sz ds Wp (addX X k) { tmps := a.tmps.setIfInBounds d v, defers := a.defers } w' := h.put hd h1 h2 h3 hw
theorem RI.put_none' {inp : List (Nat × Value)} {kn : List (Nat × Nat × Value)} {sz : Nat} {ds : List Deferred} {Wp : (Nat → Bool) → World → Prop} {X : Nat → Bool} {a : Act} {w w' : World} (h : RI inp kn sz ds Wp X a w) {k : Nat}
    (h2 : ∀ p ∈ kn, p.1 ≠ k) (hw : Wp (addX X k) w') : RI inp kn sz ds Wp (addX X k) a w' := by
  have := h.put_none (v := undef) h2 hw
  simpa [Act.put] using this
/-- The same of a region that goes in its own order. -/
theorem region_seq {F : Fence} {n : Nat} {P : Program} {ops : Array Oper} {Q : Exit → Act → World → Prop} {id : Nat} {a : Act} {w : World} (I : (Nat → Bool) → Act → World → Prop) (hb : backO 0 ops.toList = true)
    (h0 : I (fun _ => false) a w) (hs : StepsRI F n P ops Q I 0 ops.toList) (hend : ∀ X a w, (∀ i, i < ops.size → X i = true) → I X a w → Q .normal a w) : (Code.region id ops false).wpIn F n P Q a w := by
  refine wpIn_region_list ?_
  have hback := fun j o h => backO_get (k := 0) hb j o h
  have key : ∀ (r : List Oper) (k : Nat) (X : Nat → Bool) (a : Act) (w : World), ops.toList.drop k = r → (∀ i, X i = decide (i < k)) → I X a w → wpListIn F n P ops Q r a w := by
    intro r
    induction r with
    | nil =>
      intro k X a w hd hX hI
      refine hend X a w (fun i hi => ?_) hI
      rw [hX, decide_eq_true_eq]
      have := congrArg List.length hd
      simp at this
      omega
    | cons o r ih =>
      intro k X a w hd hX hI
      have hk : ops.toList[k]? = some o := by
        have := congrArg List.head? hd
        simpa [List.head?_drop] using this
      have hr : ops.toList.drop (k + 1) = r := by
        have := congrArg List.tail hd
        simpa [List.tail_drop] using this
      have hst := hs.get k o hk
      rw [Nat.zero_add] at hst
      have hstep := hst X a w (by rw [hX]; simp) (fun e he hbe => by rw [hX, decide_eq_true_eq]; have := hback k o hk e he hbe; omega) (fun j oj hoj hXj e he hbe => by
        rw [hX, decide_eq_true_eq] at hXj ⊢
        have := hback j oj (by simpa using hoj) e he hbe
        omega) hI
      have hX' : ∀ i, addX X k i = decide (i < k + 1) := fun i => by
        unfold addX; rw [hX]
        rcases Nat.lt_trichotomy i k with h | h | h
        · simp [h, show i < k + 1 from by omega]
        · simp [h]
        · simp [show ¬ i < k from by omega, show ¬ i = k from by omega, show ¬ i < k + 1 from by omega]
      unfold wpListIn
      split
      · rename_i hw
        rw [if_pos hw] at hstep
        exact Oper.wpIn_mono (fun a' w' h' => ih (k + 1) _ a' w' hr hX' h') hstep
      · rename_i hw
        rw [if_neg hw] at hstep
        exact ⟨hstep.1, ih (k + 1) _ _ _ hr hX' hstep.2⟩
  exact key ops.toList 0 (fun _ => false) a w (by simp) (fun i => by simp) h0

theorem slot_bool {a : Act} {t : Nat} {b : Bool} (h : a.tmps[t]?.getD undef = .bool b) : a.tmps[t]? = some (.bool b) := by
  cases hh : a.tmps[t]? with
  | none => rw [hh] at h; simp [undef] at h
  | some v => rw [hh] at h; simpa using h

theorem RI.putX {inp : List (Nat × Value)} {kn kn2 : List (Nat × Nat × Value)} {sz : Nat} {ds : List Deferred} {Wp Wp2 : (Nat → Bool) → World → Prop} {X : Nat → Bool} {a : Act} {w w' : World} (h : RI inp kn sz ds Wp X a w) {k d : Nat} {v : Value} (hd : d < sz)
    (h1 : ∀ p ∈ inp, p.1 ≠ d) (h2 : ∀ p ∈ kn2, (p.1 = k ↔ p.2.1 = d)) (h3 : ∀ p ∈ kn2, p.1 = k → p.2.2 = v) (h4 : ∀ p ∈ kn2, p.1 ≠ k → p ∈ kn) (hw : Wp2 (addX X k) w') : RI inp kn2 sz ds Wp2 (addX X k) (a.put (some d) v) w' where
  size := by unfold Act.put; simpa using h.size
  defers := h.defers
  inp := fun p hp => by rw [put_getD _ _ _ _ (by rw [h.size]; exact hd), if_neg (h1 p hp)]; exact h.inp p hp
  kn := fun p hp hx => by
    rw [put_getD _ _ _ _ (by rw [h.size]; exact hd)]
    by_cases e : p.1 = k
    · rw [if_pos ((h2 p hp).1 e)]; exact (h3 p hp e).symm
    · rw [if_neg (fun e' => e ((h2 p hp).2 e'))]
      rw [addX_ne X e] at hx
      exact h.kn p (h4 p hp e) hx
  wp := hw
/-- A region that goes in its own order, by how far it has come. -/
def StepsSq (F : Fence) (n : Nat) (P : Program) (ops : Array Oper) (Q : Exit → Act → World → Prop) (I : Nat → Act → World → Prop) : Nat → List Oper → Prop
  | _, [] => True
  | k, o :: r => (∀ a w, I k a w → if Region.wanted o (yielded ops a.tmps) then o.wpIn F n P a w (I (k + 1)) Q else (∀ f, o.about P w a.eval = some f → F.fn f) ∧ I (k + 1) (a.put o.dst undef) w) ∧ StepsSq F n P ops Q I (k + 1) r
theorem region_sq {F : Fence} {n : Nat} {P : Program} {ops : Array Oper} {Q : Exit → Act → World → Prop} {id : Nat} {a : Act} {w : World} (I : Nat → Act → World → Prop)
    (h0 : I 0 a w) (hs : StepsSq F n P ops Q I 0 ops.toList) (hend : ∀ a w, I ops.size a w → Q .normal a w) : (Code.region id ops false).wpIn F n P Q a w := by
  refine wpIn_region_list ?_
  have key : ∀ (r : List Oper) (k : Nat) (a : Act) (w : World), k + r.length = ops.size → StepsSq F n P ops Q I k r → I k a w → wpListIn F n P ops Q r a w := by
    intro r
    induction r with
    | nil => intro k a w hk _ hI; rw [show k = ops.size from by simpa using hk] at hI; exact hend a w hI
    | cons o r ih =>
      intro k a w hk hs hI
      have hst := hs.1 a w hI
      unfold wpListIn
      split
      · rename_i hw
        rw [if_pos hw] at hst
        exact Oper.wpIn_mono (fun a' w' h' => ih (k + 1) a' w' (by simp at hk; omega) hs.2 h') hst
      · rename_i hw
        rw [if_neg hw] at hst
        exact ⟨hst.1, ih (k + 1) _ _ (by simp at hk; omega) hs.2 hst.2⟩
  exact key ops.toList 0 a w (by simp) hs h0
/-- What is known of slots, and the world. -/
structure SR (kn : List (Nat × Value)) (sz : Nat) (ds : List Deferred) (W : World) (a : Act) (w : World) : Prop where
  size : a.tmps.size = sz
  defers : a.defers = ds
  kn : ∀ p ∈ kn, a.tmps[p.1]?.getD undef = p.2
  wp : w = W
theorem SR.put {kn kn2 : List (Nat × Value)} {sz : Nat} {ds : List Deferred} {W : World} {a : Act} {w w' : World} (h : SR kn sz ds W a w) {d : Nat} {v : Value} (hd : d < sz) (h2 : ∀ p ∈ kn2, p.1 = d ∧ p.2 = v ∨ p.1 ≠ d ∧ p ∈ kn) : SR kn2 sz ds w' { tmps := a.tmps.setIfInBounds d v, defers := a.defers } w' where
  size := by simpa using h.size
  defers := h.defers
  kn := fun p hp => by
    have := put_getD a d p.1 v (by rw [h.size]; exact hd)
    rw [show ({ tmps := a.tmps.setIfInBounds d v, defers := a.defers } : Act) = a.put (some d) v from rfl, this]
    rcases h2 p hp with ⟨h1, h3⟩ | ⟨h1, h3⟩
    · rw [if_pos h1, h3]
    · rw [if_neg h1]; exact h.kn p h3
  wp := rfl
theorem SR.none {kn : List (Nat × Value)} {sz : Nat} {ds : List Deferred} {W : World} {a : Act} {w w' : World} (h : SR kn sz ds W a w) : SR kn sz ds w' a w' := ⟨h.size, h.defers, h.kn, rfl⟩
theorem SR.sub {kn kn' : List (Nat × Value)} {sz : Nat} {ds : List Deferred} {W : World} {a : Act} {w : World} (h : SR kn sz ds W a w) (hs : ∀ p ∈ kn', p ∈ kn) : SR kn' sz ds W a w := ⟨h.size, h.defers, fun p hp => h.kn p (hs p hp), h.wp⟩
theorem SR.ri {kn : List (Nat × Value)} {sz : Nat} {ds : List Deferred} {W : World} {a : Act} {w : World} (h : SR kn sz ds W a w) : RI kn [] sz ds (fun _ _ => True) (fun _ => false) a w := ⟨h.size, h.defers, h.kn, by simp, trivial⟩
theorem RI.sr {kn : List (Nat × Value)} {sz : Nat} {ds : List Deferred} {a : Act} {w : World} {Wp : (Nat → Bool) → World → Prop} {X : Nat → Bool} (h : RI kn [] sz ds Wp X a w) : SR kn sz ds w a w := ⟨h.size, h.defers, h.inp, rfl⟩
def slotN (t : Nat) (a : Act) : Nat := match a.tmps[t]?.getD undef with | .int _ v => v.toNat | _ => 0
theorem slotN_of {kn : List (Nat × Value)} {sz : Nat} {ds : List Deferred} {W : World} {a : Act} {w : World} (h : SR kn sz ds W a w) {t : Nat} {v : Nat} {k : IntKind} (hp : (t, .int k v) ∈ kn) : slotN t a = v := by
  have := h.kn _ hp
  unfold slotN; rw [this]; exact Int.toNat_natCast v
abbrev A7 (B sB mB ly c : Nat) : List (Nat × Value) := [(1, .pointer (some ⟨B, 0, none⟩)), (5, .pointer (some ⟨sB, 0, none⟩)), (6, .pointer (some ⟨mB, 0, none⟩)), (7, .int .i64 ly), (26, .int .i64 ly), (27, .int .i64 c)]
abbrev A8 (B sB mB ly c : Nat) (y : Int) : List (Nat × Value) := [(1, .pointer (some ⟨B, 0, none⟩)), (5, .pointer (some ⟨sB, 0, none⟩)), (6, .pointer (some ⟨mB, 0, none⟩)), (7, .int .i64 ly), (26, .int .i64 ly), (27, .int .i64 c), (8, .int .i64 c), (9, .int .i64 y)]
theorem operIn_append {F : Fence} {nF : Nat} {P : Program} {w : World} {K : Act → World → Prop} {o : Oper} {a : Act} {Q : Exit → Act → World → Prop} (s x : Operand) (t : TypeId)
    (ho : o.op = .call { callee := .builtin .append, args := #[s, x], argTypes := #[t, t] })
    (base : Nat) (e : TypeId) (i : TypeInfo) (z : Value) (size bytes : Nat) (ht : P.underlying t = some (.slice e)) (hi : P.info? e = some i) (hz : i.zero = some z)
    (hsize : i.size = size) (hby : i.bytes = bytes) (hzs : z.cells.size = size) (hsz : 0 < size)
    (v : Value) (n : Nat) (xs : List Value) (hs : a.eval s = v) (hown : w.ownsRow base e size v n xs)
    (ad : Addr) (m c : Nat) (news : List Value) (hx : a.eval x = .slice (some ad) m c) (hl : news.length = m * size) (hnews : ∀ j u, news[j]? = some u → w.cell? (ad.add j) = some u) (h1 : ∀ u ∈ news, u.oneCell' = true)
    (h63 : n + m ≤ maxLen) (hbytes : (n + m) * bytes ≤ 140737488355328) (hbase : base ≤ w.heap.size)
    (h : ∀ v' w', w'.ownsRow base e size v' (n + m) (xs ++ news) → w.grownBy w' v.ownBlock → (v'.ownBlock = v.ownBlock ∨ v'.ownBlock = some w.heap.size) → K (a.put o.dst v') w') :
    o.wpIn F nF P a w K Q := by
  obtain ⟨v', w', hr, h2, h3, h4, h5⟩ := run_append_own_at (P := P) w base t o.type e i z size bytes ht hi hz hsize hby hzs hsz v n xs hown ad m c news hl hnews h1 h63 hbytes hbase
  unfold Oper.wpIn
  refine ⟨by simp [Oper.about, ho, resolve, Target.leads, Sem.run_pure], ?_⟩
  rw [Oper.semAt_plain F _ _ (by rw [ho]; intro c hc'; cases hc')]
  simp [execOp, ho, resolve, invoke, builtin, hs, hx, hr, Result.andThen]
  exact h v' w' h2 h3 h5
/-- .. with a value that is told later. -/
inductive SomeV (I : Value → (Nat → Bool) → Act → World → Prop) (X : Nat → Bool) (a : Act) (w : World) : Prop
  | mk (v : Value) (h : I v X a w) : SomeV I X a w
theorem add_none (b o j : Nat) : (⟨b, o, none⟩ : Addr).add j = ⟨b, o + j, none⟩ := by
  unfold Addr.add
  split
  · rename_i h; subst h; rfl
  · rfl
theorem setCell_heap_same {W : World} {b m : Nat} {cur : Array Value} {t : TypeId} (h : W.heap[b]? = some (.cells cur t (0, 0))) (v : Value) : (W.setCell ⟨b, m, none⟩ v).heap[b]? = some (.cells (cur.setIfInBounds m v) t (0, 0)) := by
  obtain ⟨hlt, hk⟩ := Array.getElem?_eq_some_iff.1 h
  show (W.heap.modify b _)[b]? = _
  rw [Array.getElem?_eq_getElem (by rw [Array.size_modify]; exact hlt), Array.getElem_modify_self, hk]
  rfl
/-! ### What is known of a world under way -/
structure SG (kn : List (Nat × Value)) (sz : Nat) (G : World → Prop) (a : Act) (w : World) : Prop where
  size : a.tmps.size = sz
  defers : a.defers = []
  kn : ∀ p ∈ kn, a.tmps[p.1]?.getD undef = p.2
  wp : G w
def Stable (G : World → Prop) : Prop := ∀ w w', G w → Below w.heap.size w w' → G w'
theorem SG.put {kn kn2 : List (Nat × Value)} {sz : Nat} {G G' : World → Prop} {a : Act} {w w' : World} (h : SG kn sz G a w) {d : Nat} {v : Value} (hd : d < sz) (h2 : ∀ p ∈ kn2, p.1 = d ∧ p.2 = v ∨ p.1 ≠ d ∧ p ∈ kn) (hg : G' w') : SG kn2 sz G' { tmps := a.tmps.setIfInBounds d v, defers := a.defers } w' where
  size := by simpa using h.size
  defers := h.defers
  kn := fun p hp => by
    have := put_getD a d p.1 v (by rw [h.size]; exact hd)
    rw [show ({ tmps := a.tmps.setIfInBounds d v, defers := a.defers } : Act) = a.put (some d) v from rfl, this]
    rcases h2 p hp with ⟨h1, h3⟩ | ⟨h1, h3⟩
    · rw [if_pos h1, h3]
    · rw [if_neg h1]; exact h.kn p h3
  wp := hg
theorem SG.none {kn : List (Nat × Value)} {sz : Nat} {G G' : World → Prop} {a : Act} {w w' : World} (h : SG kn sz G a w) (hg : G' w') : SG kn sz G' a w' := ⟨h.size, h.defers, h.kn, hg⟩
theorem SG.sub {kn kn' : List (Nat × Value)} {sz : Nat} {G : World → Prop} {a : Act} {w : World} (h : SG kn sz G a w) (hs : ∀ p ∈ kn', p ∈ kn) : SG kn' sz G a w := ⟨h.size, h.defers, fun p hp => h.kn p (hs p hp), h.wp⟩
theorem SG.sr {kn : List (Nat × Value)} {sz : Nat} {G : World → Prop} {a : Act} {w : World} (h : SG kn sz G a w) : SR kn sz [] w a w := ⟨h.size, h.defers, h.kn, rfl⟩
theorem SR.sg {kn : List (Nat × Value)} {sz : Nat} {G : World → Prop} {a : Act} {W w : World} (h : SR kn sz [] W a w) (hg : G w) : SG kn sz G a w := ⟨h.size, h.defers, h.kn, hg⟩
/-- All that lay lies as it lay; and these blocks are new. -/
structure Has (W0 : World) (bs : List (Nat × Obj)) (W : World) : Prop where
  bel : Below W0.heap.size W0 W
  blk : ∀ p ∈ bs, W.heap[p.1]? = some p.2
  new : ∀ p ∈ bs, W0.heap.size ≤ p.1
  nd : (bs.map Prod.fst).Nodup
section
variable {W0 W w w' : World} {bs : List (Nat × Obj)}
theorem Has.start (W0 : World) : Has W0 [] W0 := ⟨Below.refl _ _, by simp, by simp, by simp⟩
theorem Has.lt (h : Has W0 bs W) {p : Nat × Obj} (hp : p ∈ bs) : p.1 < W.heap.size := (Array.getElem?_eq_some_iff.1 (h.blk p hp)).1
theorem Has.below (h : Has W0 bs w) (hb : Below w.heap.size w w') : Has W0 bs w' :=
  ⟨h.bel.trans (hb.mono h.bel.size), fun p hp => (hb.block _ (h.lt hp)).trans (h.blk p hp), h.new, h.nd⟩
theorem Has.stable (W0 : World) (bs : List (Nat × Obj)) : Stable (Has W0 bs) := fun _ _ h hb => h.below hb
theorem Has.add (h : Has W0 bs w) (hb : Below w.heap.size w w') {r : Nat} {o : Obj} (hr : w.heap.size ≤ r) (ho : w'.heap[r]? = some o) : Has W0 ((r, o) :: bs) w' where
  bel := (h.below hb).bel
  blk := fun p hp => by rcases List.mem_cons.1 hp with rfl | hp
                        · exact ho
                        · exact (h.below hb).blk p hp
  new := fun p hp => by rcases List.mem_cons.1 hp with rfl | hp
                        · exact Nat.le_trans h.bel.size hr
                        · exact h.new p hp
  nd := by
    simp only [List.map_cons, List.nodup_cons]
    refine ⟨fun hm => ?_, h.nd⟩
    obtain ⟨p, hp, e⟩ := List.mem_map.1 hm
    have := h.lt hp
    omega
theorem Has.alloc (h : Has W0 bs w) (o : Obj) : Has W0 ((w.heap.size, o) :: bs) (w.alloc o) := h.add ((Below.refl _ _).alloc (Nat.le_refl _) _) (Nat.le_refl _) (World.alloc_heap_new w o)
theorem Has.tail {p : Nat × Obj} (h : Has W0 (p :: bs) w) : Has W0 bs w := ⟨h.bel, fun q hq => h.blk q (by simp [hq]), fun q hq => h.new q (by simp [hq]), by have := h.nd; simp only [List.map_cons, List.nodup_cons] at this; exact this.2⟩
theorem Has.set {b m : Nat} {cs : Array Value} {t : TypeId} (h : Has W0 ((b, .cells cs t (0, 0)) :: bs) w) (v : Value) : Has W0 ((b, .cells (cs.setIfInBounds m v) t (0, 0)) :: bs) (w.setCell ⟨b, m, none⟩ v) where
  bel := h.bel.setCell (p := ⟨b, m, none⟩) (h.new _ List.mem_cons_self) v
  blk := fun p hp => by
    rcases List.mem_cons.1 hp with rfl | hp
    · exact setCell_heap_same (h.blk _ List.mem_cons_self) v
    · have hne : p.1 ≠ b := fun e => by
        have := h.nd
        simp only [List.map_cons, List.nodup_cons] at this
        exact this.1 (List.mem_map.2 ⟨p, hp, e⟩)
      exact (Below.heap_setCell w ⟨b, m, none⟩ v p.1 hne).trans (h.blk p (by simp [hp]))
  new := fun p hp => by
    rcases List.mem_cons.1 hp with rfl | hp
    · exact h.new (b, .cells cs t (0, 0)) List.mem_cons_self
    · exact h.new p (by simp [hp])
  nd := by have := h.nd; simpa using this
theorem Has.perm {bs' : List (Nat × Obj)} (h : Has W0 bs w) (hp : bs'.Perm bs) : Has W0 bs' w :=
  ⟨h.bel, fun p h1 => h.blk p (hp.mem_iff.1 h1), fun p h1 => h.new p (hp.mem_iff.1 h1), (hp.map _).nodup_iff.2 h.nd⟩
theorem Has.cell (h : Has W0 bs w) {b : Nat} {cs : Array Value} {t : TypeId} {fr : Nat × Nat} (hm : (b, Obj.cells cs t fr) ∈ bs) {j : Nat} {v : Value} (hv : cs[j]? = some v) : w.cell? ⟨b, j, none⟩ = some v := by
  have := h.blk _ hm
  simp only at this
  simp [World.cell?, this, hv]
theorem Has.old (h : Has W0 bs w) {b j : Nat} (hb : b < W0.heap.size) {v : Value} (hv : W0.cell? ⟨b, j, none⟩ = some v) : w.cell? ⟨b, j, none⟩ = some v := (h.bel.cell (p := ⟨b, j, none⟩) hb).trans hv
theorem Has.unfrozen (h : Has W0 bs w) {b : Nat} {cs : Array Value} {t : TypeId} (hm : (b, Obj.cells cs t (0, 0)) ∈ bs) (j : Nat) : w.frozen? ⟨b, j, none⟩ = false := by
  have := h.blk _ hm
  simp only at this
  unfold World.frozen?
  rw [this]
  rfl
end
theorem slot_undef {a : Act} {t : Nat} (h : a.tmps[t]?.getD undef = undef) (hs : t < a.tmps.size) : a.tmps[t]? = some (.tuple #[]) := by
  rw [Array.getElem?_eq_getElem hs] at h ⊢
  simp only [Option.getD_some] at h
  rw [h]; rfl
theorem mem_of_lookup {α : Type} {l : List (Nat × α)} {t : Nat} {v : α} (h : l.lookup t = some v) : (t, v) ∈ l := by
  induction l with
  | nil => cases h
  | cons p l ih =>
    obtain ⟨k, x⟩ := p
    rw [List.lookup_cons] at h
    split at h
    · rename_i e
      have : t = k := by simpa using e
      subst this
      cases h
      exact List.mem_cons_self
    · exact List.mem_cons_of_mem _ (ih h)
theorem SG.g {kn : List (Nat × Value)} {sz : Nat} {G : World → Prop} {a : Act} {w : World} (h : SG kn sz G a w) (t : Nat) {v : Value} (hp : kn.lookup t = some v) : a.tmps[t]?.getD undef = v := h.kn _ (mem_of_lookup hp)
theorem SR.g {kn : List (Nat × Value)} {sz : Nat} {ds : List Deferred} {W : World} {a : Act} {w : World} (h : SR kn sz ds W a w) (t : Nat) {v : Value} (hp : kn.lookup t = some v) : a.tmps[t]?.getD undef = v := h.kn _ (mem_of_lookup hp)
theorem RI.gi {inp : List (Nat × Value)} {kn : List (Nat × Nat × Value)} {sz : Nat} {ds : List Deferred} {Wp : (Nat → Bool) → World → Prop} {X : Nat → Bool} {a : Act} {w : World} (h : RI inp kn sz ds Wp X a w) (t : Nat) {v : Value} (hp : inp.lookup t = some v) : a.tmps[t]?.getD undef = v := h.inp _ (mem_of_lookup hp)
theorem RI.gk {inp : List (Nat × Value)} {kn : List (Nat × Nat × Value)} {sz : Nat} {ds : List Deferred} {Wp : (Nat → Bool) → World → Prop} {X : Nat → Bool} {a : Act} {w : World} (h : RI inp kn sz ds Wp X a w) (k : Nat) {d : Nat} {v : Value} (hp : kn.lookup k = some (d, v)) (hX : X k = true) : a.tmps[d]?.getD undef = v := h.kn _ (mem_of_lookup hp) hX
theorem Stable.and {G H : World → Prop} (hG : Stable G) (hH : Stable H) : Stable fun w => G w ∧ H w := fun w w' h hb => ⟨hG w w' h.1 hb, hH w w' h.2 hb⟩
theorem ownsRow_below {w w' : World} {b e size n : Nat} {v : Value} {xs : List Value} (h : w.ownsRow b e size v n xs) (hb : Below w.heap.size w w') : w'.ownsRow b e size v n xs := by
  obtain ⟨h1, h2⟩ := h
  refine ⟨h1, h2.imp id ?_⟩
  rintro ⟨g, cap, cur, e1, e2, e3, e4⟩
  exact ⟨g, cap, cur, e1, e2, (hb.block g (Array.getElem?_eq_some_iff.1 e3).1).trans e3, e4⟩
theorem ownsRow_stable {b e size n : Nat} {v : Value} {xs : List Value} : Stable fun w => w.ownsRow b e size v n xs := fun _ _ h hb => ownsRow_below h hb
theorem ownsRow_shape {w : World} {b e size n : Nat} {v : Value} {xs : List Value} (h : w.ownsRow b e size v n xs) : ∃ qp qc, v = .slice qp n qc ∧ (0 < n → ∃ nb, qp = some ⟨nb, 0, none⟩) := by
  rcases h.2 with ⟨rfl, rfl⟩ | ⟨g, cap, _, rfl, _⟩
  · exact ⟨none, 0, rfl, fun h => absurd h (Nat.lt_irrefl _)⟩
  · exact ⟨_, _, rfl, fun _ => ⟨g, rfl⟩⟩
theorem SG.slot {kn : List (Nat × Value)} {sz : Nat} {G : World → Prop} {a : Act} {w : World} (h : SG kn sz G a w) {t : Nat} {v : Nat} {k : IntKind} (hp : (t, .int k v) ∈ kn) : slotN t a = v := slotN_of h.sr hp
theorem ownsRow_mono {w : World} {b b' e size n : Nat} {v : Value} {xs : List Value} (h : w.ownsRow b e size v n xs) (hb : b' ≤ b) : w.ownsRow b' e size v n xs := by
  obtain ⟨h1, h2⟩ := h
  refine ⟨h1, h2.imp id ?_⟩
  rintro ⟨g, cap, cur, e1, e2, e3, e4⟩
  exact ⟨g, cap, cur, e1, Nat.le_trans hb e2, e3, e4⟩
theorem Has.swap {W0 w : World} {p q : Nat × Obj} {bs : List (Nat × Obj)} (h : Has W0 (p :: q :: bs) w) : Has W0 (q :: p :: bs) w := h.perm (List.Perm.swap _ _ _)
end Go.Proofs.Ytigblagodlfedaa
