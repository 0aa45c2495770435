/- A law's arguments that hold no memory: numbers, truths, texts, and rows of numbers: each is told by symbols. -/
import Derived.Test.YtigblagodlfedaaSxv
namespace Go.Proofs.Ytigblagodlfedaa
namespace Sx
open Go.RowKit

/-- The shape of an argument. -/
inductive AS where
  | int (k : IntKind) | bool | str | agg (ks : List IntKind)
def intsOf : List IntKind → List Int → List Value
  | k :: ks, z :: zs => .int k z :: intsOf ks zs
  | _, _ => []
inductive Fit : List IntKind → List Int → Prop where
  | nil : Fit [] []
  | cons {k : IntKind} {z : Int} {ks : List IntKind} {zs : List Int} (h : k.min ≤ z ∧ z ≤ k.max) (t : Fit ks zs) : Fit (k :: ks) (z :: zs)
def AS.fits : AS → Value → Prop
  | .int k, v => ∃ n, v = .int k n ∧ k.min ≤ n ∧ n ≤ k.max
  | .bool, v => ∃ b, v = .bool b
  | .str, v => ∃ s, v = .string s
  | .agg ks, v => ∃ zs, Fit ks zs ∧ v = .agg (intsOf ks zs).toArray
/-- The symbols from one number on. -/
def rowM (i : Nat) : List IntKind → List MC
  | [] => []
  | k :: ks => .int k (.var i) :: rowM (i + 1) ks
def AS.mvs : List AS → Nat → Nat → Nat → List MV
  | [], _, _, _ => []
  | .int k :: l, i, b, s => .c (.int k (.var i)) :: AS.mvs l (i + 1) b s
  | .bool :: l, i, b, s => .c (.bool (.bv b)) :: AS.mvs l i (b + 1) s
  | .str :: l, i, b, s => .c (.sv s) :: AS.mvs l i b (s + 1)
  | .agg ks :: l, i, b, s => .agg (rowM i ks) :: AS.mvs l (i + ks.length) b s
def AS.kinds : List AS → List IntKind
  | [] => []
  | .int k :: l => k :: AS.kinds l
  | .agg ks :: l => ks ++ AS.kinds l
  | _ :: l => AS.kinds l
def AS.bds (l : List AS) : Bds := { v := (AS.kinds l).map fun k => (k.min, k.max) }
theorem Fit.append {ks ks' : List IntKind} {zs zs' : List Int} (h : Fit ks zs) (h' : Fit ks' zs') : Fit (ks ++ ks') (zs ++ zs') := by
  induction h with
  | nil => exact h'
  | cons a _ ih => exact .cons a ih
theorem Fit.length {ks : List IntKind} {zs : List Int} (h : Fit ks zs) : zs.length = ks.length := by
  induction h with
  | nil => rfl
  | cons _ _ ih => simp [ih]
theorem Fit.get {ks : List IntKind} {zs : List Int} (h : Fit ks zs) : ∀ (i : Nat) (l u : Int), (ks.map fun k => (k.min, k.max))[i]? = some (l, u) → l ≤ zs.getD i 0 ∧ zs.getD i 0 ≤ u := by
  induction h with
  | nil => intro i l u h; simp at h
  | cons a _ ih =>
    intro i l u h
    cases i with
    | zero => simp at h; obtain ⟨rfl, rfl⟩ := h; simpa using a
    | succ i => simp only [List.map_cons, List.getElem?_cons_succ] at h; simpa using ih i l u h
theorem row_den {Γ : Ctx} : ∀ {ks : List IntKind} {zs : List Int} (i : Nat), Fit ks zs → (∀ j, j < zs.length → Γ.ρ.i (i + j) = zs.getD j 0) → densOf Γ (rowM i ks) = intsOf ks zs
  | [], _, _, h, _ => by cases h; rfl
  | k :: ks, _, i, h, hj => by
    cases h with
    | cons a t =>
      rename_i z zs
      have h0 := hj 0 (by simp)
      simp at h0
      have ih := row_den (Γ := Γ) (i + 1) t fun j hl => by have := hj (j + 1) (by simpa using hl); rw [show i + 1 + j = i + (j + 1) from by omega, this]; simp
      simp only [rowM, intsOf, densOf, List.map_cons, MC.den, E.I, h0]
      simp only [densOf] at ih
      rw [ih]
theorem row_on {L : Nat → Prop} : ∀ (ks : List IntKind) (i : Nat), csOn L (rowM i ks)
  | [], _ => fun m h => by simp [rowM] at h
  | k :: ks, i => fun m h => by
    rcases List.mem_cons.1 h with rfl | h
    · trivial
    · exact row_on ks (i + 1) m h
/-- Arguments, opened: symbols that stand for them. -/
theorem open_args : ∀ {l : List AS} {vs : List Value}, Both AS.fits l vs → ∃ (zs : List Int) (bs : List Bool) (ss : List ByteArray), Fit (AS.kinds l) zs ∧
    ∀ (Γ : Ctx) (i b s : Nat), (∀ j, j < zs.length → Γ.ρ.i (i + j) = zs.getD j 0) → (∀ j, j < bs.length → Γ.ρ.b (b + j) = bs.getD j false) → (∀ j, j < ss.length → Γ.ρ.s (s + j) = ss.getD j ByteArray.empty) →
      ArgsRel Γ (fun _ => False) (AS.mvs l i b s) vs
  | [], _, h => by cases h; exact ⟨[], [], [], .nil, fun _ _ _ _ _ _ _ => .nil⟩
  | a :: l, _, h => by
    cases h with
    | cons h t =>
      obtain ⟨zs, bs, ss, hf, ih⟩ := open_args t
      cases a with
      | int k =>
        obtain ⟨n, rfl, hn⟩ := h
        refine ⟨n :: zs, bs, ss, .cons hn hf, fun Γ i b s hi hb hs => .cons ⟨?_, trivial⟩ (ih Γ (i + 1) b s (fun j hj => ?_) hb hs)⟩
        · have := hi 0 (by simp); simp at this; simp [MV.rel, MV.den, MC.den, E.I, this]
        · have := hi (j + 1) (by simpa using hj); rw [show i + 1 + j = i + (j + 1) from by omega, this]; simp
      | bool =>
        obtain ⟨n, rfl⟩ := h
        refine ⟨zs, n :: bs, ss, hf, fun Γ i b s hi hb hs => .cons ⟨?_, trivial⟩ (ih Γ i (b + 1) s hi (fun j hj => ?_) hs)⟩
        · have := hb 0 (by simp); simp at this; simp [MV.rel, MV.den, MC.den, E.T, this]
        · have := hb (j + 1) (by simpa using hj); rw [show b + 1 + j = b + (j + 1) from by omega, this]; simp
      | str =>
        obtain ⟨n, rfl⟩ := h
        refine ⟨zs, bs, n :: ss, hf, fun Γ i b s hi hb hs => .cons ⟨?_, trivial⟩ (ih Γ i b (s + 1) hi hb (fun j hj => ?_))⟩
        · have := hs 0 (by simp); simp at this; simp [MV.rel, MV.den, MC.den, this]
        · have := hs (j + 1) (by simpa using hj); rw [show s + 1 + j = s + (j + 1) from by omega, this]; simp
      | agg ks =>
        obtain ⟨ys, hys, rfl⟩ := h
        have hlen := hys.length
        refine ⟨ys ++ zs, bs, ss, hys.append hf, fun Γ i b s hi hb hs => .cons ⟨?_, row_on ks i⟩ (ih Γ (i + ks.length) b s (fun j hj => ?_) hb hs)⟩
        · simp only [MV.rel, MV.den]
          rw [row_den i hys fun j hj => by rw [hi j (by simp; omega)]; simp [List.getElem?_append_left hj]]
        · rw [show i + ks.length + j = i + (ks.length + j) from by omega, hi (ks.length + j) (by simp; omega)]
          simp only [List.getD_eq_getElem?_getD]
          rw [List.getElem?_append_right (by omega), ← hlen, Nat.add_sub_cancel_left]
def Val.of (zs : List Int) (bs : List Bool) (ss : List ByteArray) : Val := ⟨fun i => zs.getD i 0, fun i => bs.getD i false, fun _ _ => 0, fun i => ss.getD i ByteArray.empty⟩
theorem open_all {l : List AS} {vs : List Value} (h : Both AS.fits l vs) : ∃ Γ : Ctx, ArgsRel Γ (fun _ => False) (AS.mvs l 0 0 0) vs ∧ Bds.hold Γ.ρ (AS.bds l) := by
  obtain ⟨zs, bs, ss, hf, ih⟩ := open_args h
  refine ⟨⟨Val.of zs bs ss, fun j => j, fun j => j⟩, ih _ 0 0 0 (fun j _ => ?_) (fun j _ => ?_) (fun j _ => ?_), fun i l u hh => ?_, fun i l u hh => ?_, trivial⟩
  · simp [Val.of]
  · simp [Val.of]
  · simp [Val.of]
  · exact hf.get i l u hh
  · simp [AS.bds] at hh

/-! ### From the types -/
def isInt (P : Program) (k : IntKind) (t : Nat) : Bool := match P.underlying t with | some (.int k') => kbeq k' k | _ => false
def areInts (P : Program) : List IntKind → List Nat → Bool
  | [], [] => true
  | k :: ks, t :: ts => isInt P k t && areInts P ks ts
  | _, _ => false
def AS.has (P : Program) (t : Nat) : AS → Bool
  | .int k => isInt P k t
  | .bool => match P.underlying t with | some .bool => true | _ => false
  | .str => match P.underlying t with | some .string => true | _ => false
  | .agg ks => aggB P t == some true && (Nat.beq (P.cellsOf t) ks.length && (match P.cellTypes P.depth t with | some ts => areInts P ks ts | none => false))
theorem isInt_eq {P : Program} {k : IntKind} {t : Nat} (h : isInt P k t = true) : P.underlying t = some (.int k) := by
  unfold isInt at h
  split at h
  · rename_i k' hk; rw [hk, kbeq_eq h]
  · cases h
theorem cell_int {P : Program} {w : World} {r : Reach} {b0 : Nat} {t : Nat} {k : IntKind} {v : Value} (ht : P.underlying t = some (.int k)) (h : Cell.okWide P w r b0 t v) : ∃ n, v = .int k n ∧ k.min ≤ n ∧ n ≤ k.max := by
  unfold Cell.okWide at h
  rw [ht] at h
  cases v <;> simp [Cell.ok, ht, IntKind.has] at h
  obtain ⟨rfl, h⟩ := h
  exact ⟨_, rfl, h⟩
theorem areInts_length {P : Program} : ∀ {ks : List IntKind} {ts : List Nat}, areInts P ks ts = true → ts.length = ks.length
  | [], [], _ => rfl
  | k :: ks, t :: ts, h => by simp only [areInts, Bool.and_eq_true] at h; simp [areInts_length h.2]
  | [], _ :: _, h => by simp [areInts] at h
  | _ :: _, [], h => by simp [areInts] at h
theorem ints_of {P : Program} {w : World} {r : Reach} {b0 : Nat} : ∀ {ks : List IntKind} {ts : List Nat} {vs : List Value}, areInts P ks ts = true → vs.length = ks.length →
    (∀ (i : Nat) (v : Value), vs[i]? = some v → ∃ u, ts[i]? = some u ∧ Cell.okWide P w r b0 u v) → ∃ zs, Fit ks zs ∧ vs = intsOf ks zs
  | [], [], [], _, _, _ => ⟨[], .nil, rfl⟩
  | k :: ks, t :: ts, v :: vs, h, hl, hc => by
    simp only [areInts, Bool.and_eq_true] at h
    obtain ⟨u, hu, hok⟩ := hc 0 v rfl
    simp at hu; subst hu
    obtain ⟨n, rfl, hn⟩ := cell_int (isInt_eq h.1) hok
    obtain ⟨zs, hz, rfl⟩ := ints_of (vs := vs) h.2 (by simpa using hl) fun i v hv => by simpa using hc (i + 1) v (by simpa using hv)
    exact ⟨n :: zs, .cons hn hz, rfl⟩
  | [], [], _ :: _, _, hl, _ => by simp at hl
  | _ :: _, _ :: _, [], _, hl, _ => by simp at hl
  | [], _ :: _, _, h, _, _ => by simp [areInts] at h
  | _ :: _, [], _, h, _, _ => by simp [areInts] at h
theorem AS.fits_of {P : Program} {w : World} {r : Reach} {b0 : Nat} {t : Nat} {v : Value} : ∀ {a : AS}, a.has P t = true → Value.okWide P w r b0 t v → a.fits v
  | .int k, h, hv => by
    have ht := isInt_eq h
    simp only [Value.okWide, ht] at hv
    exact cell_int ht hv
  | .bool, h, hv => by
    simp only [AS.has] at h
    split at h
    · rename_i ht
      simp only [Value.okWide, ht, Cell.okWide] at hv
      cases v <;> simp [Cell.ok, ht] at hv
      exact ⟨_, rfl⟩
    · cases h
  | .str, h, hv => by
    simp only [AS.has] at h
    split at h
    · rename_i ht
      simp only [Value.okWide, ht, Cell.okWide] at hv
      cases v <;> simp [Cell.ok, ht] at hv
      exact ⟨_, rfl⟩
    · cases h
  | .agg ks, h, hv => by
    simp only [AS.has, Bool.and_eq_true] at h
    obtain ⟨ha, hn, hts⟩ := h
    have hn := Nat.eq_of_beq_eq_true hn
    split at hts
    · rename_i ts hct
      have hlen := areInts_length hts
      have hv' : ∃ cs, v = .agg cs ∧ cs.size = P.cellsOf t ∧ Row.okWide P w r b0 t cs := by
        unfold aggB at ha
        unfold Value.okWide at hv
        cases hu : P.underlying t with
        | none => rw [hu] at ha; simp at ha
        | some u => rw [hu] at ha hv; cases u <;> simp at ha <;> exact hv
      obtain ⟨cs, rfl, hsz, ts', hct', _, hall⟩ := hv'
      rw [hct] at hct'; cases hct'
      obtain ⟨zs, hz, he⟩ := ints_of (P := P) (w := w) (r := r) (b0 := b0) (vs := cs.toList) hts (by simp; omega) fun i v hv => by
        have hi : i < cs.size := by have := (List.getElem?_eq_some_iff.1 hv).1; simpa using this
        obtain ⟨u, hu, hok⟩ := hall i v (by simpa using hv)
        rw [Nat.mod_eq_of_lt (by omega)] at hu
        exact ⟨u, hu, hok⟩
      exact ⟨zs, hz, by rw [← he]⟩
    · cases hts

/-- A law's walk: of whatever arguments of these shapes. -/
theorem law_walk {P : Program} {E : Env} (hm : P.follows .mixedOrders = true) (hE : E.Ok P) (hsum : Callee.Sound P E.bs E.sum) (hsure : Callee.Sure E.bs E.sum) {f n : Nat} {l : List AS} (hbs : E.bs = AS.bds l)
    (h : allTrue E.bs (callF P E (evF P E n) f (AS.mvs l 0 0 0) {} []) = true) {vs : List Value} (hv : Both AS.fits l vs) (w : World) : Calls P f vs.toArray w fun e w' => e = .returned (.bool true) ∧ Below w.heap.size w w' := by
  obtain ⟨Γ, ha, hb⟩ := open_all hv
  exact law_true (fast_sound hm hE hsum hsure n) (fast_sure hE hsure n) ha (by rw [hbs]; exact hb) h w
end Sx
end Go.Proofs.Ytigblagodlfedaa
