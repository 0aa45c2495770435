/- The symbolic run: operators, slices, the builtins. -/
import Derived.Test.YtigblagodlfedaaSxg
namespace Go.Proofs.Ytigblagodlfedaa
namespace Sx
open Go.RowKit

theorem geOne_spec {ρ : Val} {bs : Bds} {fs : Facts} (hb : bs.hold ρ) (hf : fs.hold ρ) {e : E} (h : geZero bs fs (mkAdd e (.lit (-1))) = true) : 1 ≤ e.I ρ := by
  have := geZero_spec hb hf h
  rw [mkAdd_I] at this
  simp only [E.I] at this
  omega
theorem maskI (a : Int) (n : Nat) (hn : n ≤ 62) : Go.bits .and .i64 a (2 ^ n - 1) = a % 2 ^ n := by
  have h1 : (BitVec.ofInt 64 a).toNat = (a % 2 ^ 64).toNat := by simp [BitVec.toNat_ofInt]
  have h2 : (BitVec.ofInt 64 ((2 : Int) ^ n - 1)).toNat = 2 ^ n - 1 := by
    have hp : (2 : Nat) ^ n ≤ 2 ^ 62 := Nat.pow_le_pow_right (by omega) hn
    have hp1 : 0 < (2 : Nat) ^ n := Nat.pos_of_ne_zero (by simp)
    have e : (2 : Int) ^ n - 1 = ((2 ^ n - 1 : Nat) : Int) := by
      have : ((2 ^ n : Nat) : Int) = (2 : Int) ^ n := by simp
      omega
    rw [e, BitVec.ofInt_natCast, BitVec.toNat_ofNat]
    exact Nat.mod_eq_of_lt (by omega)
  show IntKind.i64.wrap ((BitVec.ofInt 64 a &&& BitVec.ofInt 64 ((2 : Int) ^ n - 1)).toNat : Int) = _
  rw [BitVec.toNat_and, h1, h2, Nat.and_two_pow_sub_one_eq_mod]
  have hp : (2 : Nat) ^ n ≤ 2 ^ 62 := Nat.pow_le_pow_right (by omega) hn
  have hp1 : 0 < (2 : Nat) ^ n := Nat.pos_of_ne_zero (by simp)
  have hlt : (a % 2 ^ 64).toNat % 2 ^ n < 2 ^ n := Nat.mod_lt _ hp1
  have e : (((a % 2 ^ 64).toNat % 2 ^ n : Nat) : Int) = a % 2 ^ n := by
    have h0 : 0 ≤ a % 2 ^ 64 := Int.emod_nonneg _ (by decide)
    rw [Int.natCast_emod, Int.toNat_of_nonneg h0]
    have : ((2 ^ n : Nat) : Int) = (2 : Int) ^ n := by simp
    rw [this]
    exact Int.emod_emod_of_dvd a ⟨2 ^ (64 - n), by rw [← Int.pow_add]; congr 1; omega⟩
  rw [e]
  have e2 : (a % (2 : Int) ^ n) = (((a % 2 ^ 64).toNat % 2 ^ n : Nat) : Int) := e.symm
  rw [e2]
  generalize (a % 2 ^ 64).toNat % 2 ^ n = z at *
  have m1 : IntKind.min .i64 = -9223372036854775808 := rfl
  have m2 : IntKind.max .i64 = 9223372036854775807 := rfl
  exact wrap_in ⟨by omega, by omega⟩
theorem maskN_eq {m : Int} {n : Nat} (h : maskN m = some n) : n ≤ 62 ∧ m = 2 ^ n - 1 := by
  unfold maskN at h
  split at h <;> simp at h <;> (subst h; exact ⟨by omega, by decide⟩)
theorem mkAndM_I {ρ : Val} {bs : Bds} {fs : Facts} (hb : bs.hold ρ) (hf : fs.hold ρ) (k : IntKind) (a b : E) : (mkAndM bs fs k a b).I ρ = Go.bits .and k (a.I ρ) (b.I ρ) := by
  unfold mkAndM
  split
  · split
    · rename_i n hn
      obtain ⟨h1, h2⟩ := maskN_eq hn
      rw [mkMod_I hb hf, show (E.lit _).I ρ = _ from rfl, show (E.lit _).I ρ = _ from rfl, h2]
      exact (maskI _ n h1).symm
    · exact mkBits_I ..
  · exact mkBits_I ..
theorem orI (x y : Int) (h1 : -2147483648 ≤ x) (h2 : x ≤ 2147483647) (h3 : 0 ≤ y) (h4 : y ≤ 4294967295) : Go.bits .or .i64 (x * 4294967296) y = x * 4294967296 + y := by
  have e1 : (BitVec.ofInt 64 (x * 4294967296)).toNat = (x % 4294967296).toNat <<< 32 := by
    rw [BitVec.toNat_ofInt, Nat.shiftLeft_eq]
    show (x * 4294967296 % 18446744073709551616).toNat = (x % 4294967296).toNat * 4294967296
    omega
  have e2 : (BitVec.ofInt 64 y).toNat = y.toNat := by
    rw [BitVec.toNat_ofInt]
    show (y % 18446744073709551616).toNat = y.toNat
    omega
  show IntKind.i64.wrap ((BitVec.ofInt 64 (x * 4294967296) ||| BitVec.ofInt 64 y).toNat : Int) = _
  rw [BitVec.toNat_or, e1, e2, ← Nat.shiftLeft_add_eq_or_of_lt (show y.toNat < 2 ^ 32 by show y.toNat < 4294967296; omega), Nat.shiftLeft_eq]
  show IntKind.i64.wrap (((x % 4294967296).toNat * 4294967296 + y.toNat : Nat) : Int) = _
  have hz : (((x % 4294967296).toNat * 4294967296 + y.toNat : Nat) : Int) = (x % 4294967296) * 4294967296 + y := by omega
  rw [hz]
  simp [IntKind.wrap, IntKind.signed, IntKind.bits]
  split <;> omega
theorem mkOrM_I {ρ : Val} {bs : Bds} {fs : Facts} (hb : bs.hold ρ) (hf : fs.hold ρ) (k : IntKind) (a b : E) : (mkOrM bs fs k a b).I ρ = Go.bits .or k (a.I ρ) (b.I ρ) := by
  unfold mkOrM
  split
  · rename_i x
    split
    · rename_i h
      rw [Bool.and_eq_true] at h
      have h1 := Bd.of_within (bnd1_has hb hf x) h.1
      have h2 := Bd.of_within (bnd1_has hb hf b) h.2
      rw [mkAdd_I]
      simp only [E.I]
      rw [orI _ _ h1.1 h1.2 h2.1 h2.2]
    · exact mkBits_I ..
  · exact mkBits_I ..
theorem intM_sound {P : Program} {bs : Bds} {fs : Facts} {Γ : Ctx} {op : BinOp} {k : IntKind} {a b : E} {m : MC} (h : intM bs fs op k a b = some m) (hb : bs.hold Γ.ρ) (hf : fs.hold Γ.ρ) (t : Nat) (w : World) :
    (binOp op t (.int k (a.I Γ.ρ)) (.int k (b.I Γ.ρ))).run P w = .ok (m.den Γ) w ∧ ∀ L, m.on L := by
  unfold intM at h
  split at h
  · cases h; exact ⟨by simp [binOp, Op.intArith, MC.den, mkWrap_I hb hf, mkAdd_I], fun _ => trivial⟩
  · cases h; exact ⟨by simp [binOp, Op.intArith, MC.den, mkWrap_I hb hf, mkSub_I], fun _ => trivial⟩
  · cases h; exact ⟨by simp [binOp, Op.intArith, MC.den, mkWrap_I hb hf, mkMul_I], fun _ => trivial⟩
  · split at h
    · rename_i hc
      rw [Bool.and_eq_true] at hc
      have h0 := geZero_spec hb hf hc.1
      have h1 := geOne_spec hb hf hc.2
      cases h
      refine ⟨?_, fun _ => trivial⟩
      have hne : ¬ b.I Γ.ρ = 0 := by omega
      simp [binOp, Op.intDiv, hne, MC.den, mkWrap_I hb hf, mkDiv_I hb hf, Int.tdiv_eq_ediv_of_nonneg h0]
    · cases h
  · split at h
    · rename_i hc
      rw [Bool.and_eq_true] at hc
      have h0 := geZero_spec hb hf hc.1
      have h1 := geOne_spec hb hf hc.2
      cases h
      refine ⟨?_, fun _ => trivial⟩
      have hne : ¬ b.I Γ.ρ = 0 := by omega
      simp [binOp, Op.intDiv, hne, MC.den, mkMod_I hb hf, Int.tmod_eq_emod_of_nonneg h0]
    · cases h
  · cases h; exact ⟨by rw [binOp_and, intBits_and]; simp only [MC.den, mkAndM_I hb hf, Sem.run_pure], fun _ => trivial⟩
  · cases h; exact ⟨by rw [binOp_or, intBits_or]; simp only [MC.den, mkOrM_I hb hf, Sem.run_pure], fun _ => trivial⟩
  · cases h; exact ⟨by simp [binOp, Op.intCmp, MC.den, mkLt_T hb hf], fun _ => trivial⟩
  · cases h; exact ⟨by simp [binOp, Op.intCmp, MC.den, mkLe_T hb hf], fun _ => trivial⟩
  · cases h; exact ⟨by simp [binOp, Op.intCmp, MC.den, mkLt_T hb hf], fun _ => trivial⟩
  · cases h; exact ⟨by simp [binOp, Op.intCmp, MC.den, mkLe_T hb hf], fun _ => trivial⟩
  · cases h
theorem pow2_eq (n : Nat) : pow2 n = (2 : Int) ^ n := rfl
theorem binM_sound {P : Program} {bs : Bds} {fs : Facts} {op : BinOp} {t : Nat} {x y : MV} {S : St} {r : Res} {Γ : Ctx} {L : Nat → Prop} {w : World} {xv yv : Value}
    (h : binM P bs fs op t x y = .ok r) (hx : x.rel Γ xv) (hy : y.rel Γ yv) (hb : bs.hold Γ.ρ) (hf : fs.hold Γ.ρ) (ox oy : Operand) :
    RanV P Γ L S r w (do eqGuard op t ox oy xv yv; binOp op t xv yv) := by
  unfold binM at h
  split at h
  · split at h
    · rename_i e he
      cases h
      obtain ⟨h1, _, h2, _⟩ := eqM_sound (P := P) he hx hy hb hf ox oy w
      exact RanV.pure (v := .bool (e.T Γ.ρ)) (by simp only [Sem.run_bind, h1, Result.andThen_ok, h2]) rfl trivial
    · cases h
  · split at h
    · rename_i e he
      cases h
      obtain ⟨_, h1, _, h2⟩ := eqM_sound (P := P) he hx hy hb hf ox oy w
      exact RanV.pure (v := .bool (!(e.T Γ.ρ))) (by simp only [Sem.run_bind, h1, Result.andThen_ok, h2]) (by simp only [MV.rel, MV.den, MC.den, mkNot_T]) trivial
    · cases h
  · split at h
    · rename_i k a k' n
      split at h
      · rename_i hn
        cases h
        have hx := MV.rel_c hx; have hy := MV.rel_c hy
        subst hx hy
        refine RanV.pure (by simp only [Sem.run_bind, MC.den, E.I, binOp, Op.shift]; rw [if_neg (by omega)]; rfl) ?_ trivial
        simp only [MV.rel, MV.den, MC.den, mkWrap_I hb hf, mkMul_I, E.I, pow2_eq]
        rw [Nat.min_eq_left (by omega)]
      · cases h
    · cases h
  · split at h
    · rename_i k a k' n
      split at h
      · rename_i hn
        cases h
        have hx := MV.rel_c hx; have hy := MV.rel_c hy
        subst hx hy
        refine RanV.pure (by simp only [Sem.run_bind, MC.den, E.I, binOp, Op.shift]; rw [if_neg (by omega)]; rfl) ?_ trivial
        simp only [MV.rel, MV.den, MC.den, mkDiv_I hb hf, E.I, pow2_eq]
        rw [Nat.min_eq_left (by omega), Int.fdiv_eq_ediv_of_nonneg _ (Int.le_of_lt (Int.pow_pos (by omega)))]
      · cases h
    · cases h
  · split at h
    · rename_i k a k' b
      split at h
      · rename_i hk
        have hk := kbeq_eq hk
        subst hk
        split at h
        · rename_i m hm
          cases h
          have hx := MV.rel_c hx; have hy := MV.rel_c hy
          subst hx hy
          obtain ⟨h1, h2⟩ := intM_sound (P := P) hm hb hf t w
          refine RanV.pure ?_ rfl (h2 L)
          simp only [Sem.run_bind, run_eqGuard_mc, Result.andThen_ok]
          exact h1
        · cases h
      · cases h
    · cases h
theorem unM_sound {P : Program} {bs : Bds} {fs : Facts} {op : UnOp} {x : MV} {S : St} {r : Res} {Γ : Ctx} {L : Nat → Prop} {w : World} {xv : Value}
    (h : unM bs fs op x = .ok r) (hx : x.rel Γ xv) (hb : bs.hold Γ.ρ) (hf : fs.hold Γ.ρ) : RanV P Γ L S r w (Op.unary op xv) := by
  unfold unM at h
  split at h
  · cases h
    have hx := MV.rel_c hx
    subst hx
    exact RanV.pure rfl (by simp only [MV.rel, MV.den, MC.den, mkNot_T]) trivial
  · cases h
    have hx := MV.rel_c hx
    subst hx
    exact RanV.pure rfl (by simp only [MV.rel, MV.den, MC.den, mkWrap_I hb hf, mkSub_I, E.I]) trivial
  · cases h
theorem convM_sound {P : Program} {bs : Bds} {fs : Facts} {s d : Nat} {x : MV} {S : St} {r : Res} {Γ : Ctx} {L : Nat → Prop} {w : World} {xv : Value}
    (h : convM P bs fs s d x = .ok r) (hx : x.rel Γ xv) (hb : bs.hold Γ.ρ) (hf : fs.hold Γ.ρ) : RanV P Γ L S r w (convert s d xv) := by
  unfold convM at h
  split at h
  · rename_i q k k' e hs hd
    cases h
    have hx := MV.rel_c hx
    subst hx
    refine RanV.pure ?_ (by simp only [MV.rel, MV.den, MC.den, mkWrap_I hb hf]; rfl) trivial
    simp [convert, run_underlying hs, run_underlying hd, MC.den, Conv.intToInt]
  · cases h
theorem capsM_spec {Γ : Ctx} {L : Nat → Prop} {ev : Operand → MV} {f : Operand → Value} (he : ∀ x, (ev x).rel Γ (f x) ∧ (ev x).on L) : ∀ {xs : List Operand} {l : List (Nat × Nat)}, capsM ev xs = some l →
    xs.map f = (l.map fun p => Value.pointer (some ⟨Γ.id p.1, p.2, none⟩)) ∧ ∀ p ∈ l, L p.1
  | [], l, h => by simp only [capsM, Option.some.injEq] at h; subst h; exact ⟨rfl, fun p hp => absurd hp (by simp)⟩
  | x :: xs, l, h => by
    simp only [capsM] at h
    split at h
    · rename_i b n q hx hq
      split at h
      · rename_i hn
        cases h
        obtain ⟨h1, h2⟩ := capsM_spec he hq
        have hr := (he x).1
        have ho := (he x).2
        rw [hx] at hr ho
        refine ⟨?_, fun p hp => ?_⟩
        · simp only [List.map_cons, h1]
          rw [MV.rel_c hr]
          rfl
        · rcases List.mem_cons.1 hp with rfl | hp
          · exact ho
          · exact h2 p hp
      · cases h
    · cases h
theorem lenM_sound {P : Program} {bs : Bds} {fs : Facts} {t ty : Nat} {x : MV} {S : St} {r : Res} {Γ : Ctx} {L : Nat → Prop} {w : World} {xv : Value}
    (h : lenM P bs fs t x = .ok r) (hx : x.rel Γ xv) (hb : bs.hold Γ.ρ) (hf : fs.hold Γ.ρ) : RanV P Γ L S r w (Builtin.len_ #[t] ty #[xv]) := by
  unfold lenM at h
  split at h
  · rename_i el b o l c hu
    split at h
    · rename_i hz
      cases h
      have h0 := geZero_spec hb hf hz
      have hx := MV.rel_c hx
      subst hx
      refine RanV.pure (v := goInt ((l.I Γ.ρ).toNat)) (by simp [Builtin.len_, run_underlying hu, MC.den]) ?_ trivial
      simp only [MV.rel, MV.den, MC.den, goInt]
      rw [Int.toNat_of_nonneg h0]
    · cases h
  · rename_i el hu
    cases h
    have hx := MV.rel_c hx
    subst hx
    exact RanV.pure (v := goInt 0) (by simp [Builtin.len_, run_underlying hu, MC.den]) (by simp only [MV.rel, MV.den, MC.den, goInt, E.I]) trivial
  · rename_i el b o m d hu
    cases h
    have hx := MV.rel_c hx
    subst hx
    exact RanV.pure (v := goInt 0) (by simp [Builtin.len_, run_underlying hu, MC.den]) (by simp only [MV.rel, MV.den, MC.den, goInt, E.I]) trivial
  · rename_i n el hu
    cases h
    exact RanV.pure (v := goInt n) (by simp [Builtin.len_, run_underlying hu]) (by simp only [MV.rel, MV.den, MC.den, goInt, E.I]) trivial
  · cases h
theorem minM_sound {P : Program} {bs : Bds} {fs : Facts} {ty : Nat} {ts : Array Nat} {x y : MV} {S : St} {r : Res} {Γ : Ctx} {L : Nat → Prop} {w : World} {xv yv : Value}
    (h : minM bs fs x y = .ok r) (hx : x.rel Γ xv) (hy : y.rel Γ yv) (hb : bs.hold Γ.ρ) (hf : fs.hold Γ.ρ) : RanV P Γ L S r w (Builtin.min_ ts ty #[xv, yv]) := by
  unfold minM at h
  split at h
  · rename_i k a k' b
    have hx := MV.rel_c hx; have hy := MV.rel_c hy
    subst hx hy
    have hlt := mkLt_T hb hf b a
    split at h
    · rename_i _ he
      cases h
      rw [he] at hlt
      have hl := of_decide_eq_true hlt.symm
      exact RanV.pure (v := .int k (if b.I Γ.ρ < a.I Γ.ρ then b.I Γ.ρ else a.I Γ.ρ)) (by simp [Builtin.min_, Builtin.min2, MC.den]) (by simp only [MV.rel, MV.den, MC.den, if_pos hl]) trivial
    · rename_i _ he
      cases h
      rw [he] at hlt
      have hl := of_decide_eq_false hlt.symm
      exact RanV.pure (v := .int k (if b.I Γ.ρ < a.I Γ.ρ then b.I Γ.ρ else a.I Γ.ρ)) (by simp [Builtin.min_, Builtin.min2, MC.den]) (by simp only [MV.rel, MV.den, MC.den, if_neg hl]) trivial
    · cases h
    · cases h
      refine RanV.pure (v := .int k (if b.I Γ.ρ < a.I Γ.ρ then b.I Γ.ρ else a.I Γ.ρ)) (by simp [Builtin.min_, Builtin.min2, MC.den]) ?_ trivial
      simp only [MV.rel, MV.den, MC.den, mkMin_I hb hf, simpI_I hb hf, Value.int.injEq, true_and]
      split <;> omega
  · cases h

/-! ### Slices -/
def IsBound (z n : Nat) (v : Option Value) : Prop := (v = none ∧ n = z) ∨ ∃ k i, v = some (.int k i) ∧ 0 ≤ i ∧ i.toNat = n
theorem boundM_spec {Γ : Ctx} {L : Nat → Prop} {ev : Operand → MV} {f : Operand → Value} (he : ∀ x, (ev x).rel Γ (f x) ∧ (ev x).on L) {z n : Nat} {x : Option Operand} (h : boundM z (x.map ev) = some n) : IsBound z n (x.map f) := by
  cases x with
  | none => simp only [boundM, Option.map_none, Option.some.injEq] at h; exact .inl ⟨rfl, h.symm⟩
  | some x =>
    have hr := (he x).1
    simp only [Option.map_some] at h ⊢
    unfold boundM at h
    split at h
    · rename_i hh; cases hh
    · rename_i k e hh
      simp only [Option.some.injEq] at hh
      rw [hh] at hr
      have := litN_some h Γ.ρ
      exact .inr ⟨k, e.I Γ.ρ, by rw [MV.rel_c hr]; rfl, this.2, this.1⟩
    · cases h
theorem run_sliceBound {P : Program} {k : IntKind} {i : Int} {y : Nat} {c : BoundsCode} (h0 : 0 ≤ i) (h1 : i.toNat ≤ y) (w : World) : (Instr.sliceBound (.int k i) y c).run P w = .ok i.toNat w := by
  simp only [Instr.sliceBound, Sem.run_bind, run_asIntOf, Result.andThen_ok]
  rw [if_pos ⟨h0, by omega⟩]
  rfl
theorem run_sliceBounds {P : Program} {b : Bool} {len cap l h : Nat} {lo hi : Option Value} (hl : IsBound 0 l lo) (hh : IsBound len h hi) (h1 : l ≤ h) (h2 : h ≤ cap) (w : World) :
    (Instr.sliceBounds b len cap lo hi none).run P w = .ok (l, h, cap) w := by
  rcases hl with ⟨rfl, rfl⟩ | ⟨k, i, rfl, h3, rfl⟩ <;> rcases hh with ⟨rfl, rfl⟩ | ⟨k', i', rfl, h4, rfl⟩
  · simp [Instr.sliceBounds]
  · simp [Instr.sliceBounds, run_sliceBound h4 h2]
  · simp [Instr.sliceBounds, run_sliceBound h3 h1]
  · simp [Instr.sliceBounds, run_sliceBound h4 h2, run_sliceBound h3 h1]
theorem sliceM_sound {P : Program} {bs : Bds} {fs : Facts} {t : Nat} {x : MV} {ev : Operand → MV} {f : Operand → Value} {lo hi mx : Option Operand} {S : St} {r : Res} {Γ : Ctx} {L : Nat → Prop} {w : World} {xv : Value}
    (h : sliceM P bs fs t x (lo.map ev) (hi.map ev) (mx.map ev) S = .ok r) (hx : x.rel Γ xv) (hxo : x.on L) (hS : S.rel Γ L w) (he : ∀ x, (ev x).rel Γ (f x) ∧ (ev x).on L) (hb : bs.hold Γ.ρ) (hf : fs.hold Γ.ρ) :
    RanV P Γ L S r w (Instr.sliceAt t xv (lo.map f) (hi.map f) (mx.map f)) := by
  unfold sliceM at h
  split at h
  · rename_i n el b o hu hmx
    have hmx : mx = none := by cases mx <;> simp at hmx ⊢
    subst hmx
    have hx := MV.rel_c hx
    subst hx
    split at h
    · rename_i s l hh hs hl hhi
      split at h
      · rename_i hc
        cases h
        have h0 := geZero_spec hb hf hc.2.2
        have hbd := run_sliceBounds (P := P) (b := false) (cap := n) (boundM_spec he hl) (boundM_spec he hhi) hc.1 hc.2.1 w
        refine RanV.pure (v := .slice (some (if n = l then (⟨Γ.id b, (o.I Γ.ρ).toNat, none⟩ : Addr) else ⟨Γ.id b, (o.I Γ.ρ).toNat + l * s, none⟩)) (hh - l) (n - l)) ?_ ?_ hxo
        · simp only [Instr.sliceAt, Sem.run_bind, run_underlying hu, Result.andThen_ok, MC.den, Instr.sureAddr, Sem.run_pure, Option.map_none, hbd, szB_run hs, Addr.add_mid]
        · simp only [MV.rel, MV.den, MC.den, Cap.den, E.I, Int.toNat_natCast]
          by_cases hnl : n = l
          · simp only [hnl, if_true]
          · simp only [hnl, if_false, mkAdd_I, E.I]
            rw [show (o.I Γ.ρ + ((l : Int) * (s : Int))).toNat = (o.I Γ.ρ).toNat + l * s from by
              rw [Int.toNat_add h0 (Int.mul_nonneg (by omega) (by omega)), Int.toNat_mul (by omega) (by omega)]; simp]
      · cases h
    · cases h
  · rename_i el b o len cp hu hmx
    have hmx : mx = none := by cases mx <;> simp at hmx ⊢
    subst hmx
    have hx := MV.rel_c hx
    subst hx
    split at h
    · rename_i s l hh hs hl hhi
      split at h
      · rename_i hc
        cases h
        have h0 := geZero_spec hb hf hc.2.2.2.2
        have hbd := run_sliceBounds (P := P) (b := true) (cap := cp.toNat) (boundM_spec he hl) (boundM_spec he hhi) hc.1 hc.2.1 w
        refine RanV.pure (v := .slice (some (if cp.toNat = l then (⟨Γ.id b, (o.I Γ.ρ).toNat, none⟩ : Addr) else ⟨Γ.id b, (o.I Γ.ρ).toNat + l * s, none⟩)) (hh - l) (cp.toNat - l)) ?_ ?_ hxo
        · simp only [Instr.sliceAt, Instr.slice, Sem.run_bind, run_underlying hu, Result.andThen_ok, MC.den, Cap.den, E.I, Option.map_none, hbd, szB_run hs, Sem.run_pure, Option.map_some, Addr.add_mid]
          by_cases hnl : cp.toNat = l
          · simp only [hnl, if_true]
          · simp only [hnl, if_false]
        · simp only [MV.rel, MV.den, MC.den, Cap.den, E.I, Int.toNat_natCast]
          by_cases hnl : cp.toNat = l
          · simp only [hnl, if_true]
          · simp only [hnl, if_false, mkAdd_I, E.I]
            rw [show (o.I Γ.ρ + ((l : Int) * (s : Int))).toNat = (o.I Γ.ρ).toNat + l * s from by
              rw [Int.toNat_add h0 (Int.mul_nonneg (by omega) (by omega)), Int.toNat_mul (by omega) (by omega)]; simp]
      · cases h
    · cases h
  · rename_i el b o len m hu hmx
    have hmx : mx = none := by cases mx <;> simp at hmx ⊢
    subst hmx
    have hx := MV.rel_c hx
    subst hx
    split at h
    · rename_i s cs tt q l hh hs hB hl hhi
      split at h
      · rename_i hc
        obtain ⟨hq, hs0, hlh, h0, hfit⟩ := hc
        subst hq
        have hrel := hS.rel b
        rw [hB] at hrel
        obtain ⟨rest, _, _, hq1⟩ := hrel
        have hq1 := hq1 (by omega)
        have hcap : m + hh ≤ Γ.sz b := by
          have : (m + hh) * q ≤ Γ.sz b * q := by omega
          exact Nat.le_of_mul_le_mul_right this hs0
        have hbd := run_sliceBounds (P := P) (b := true) (cap := Γ.sz b - m) (boundM_spec he hl) (boundM_spec he hhi) (by omega) (by omega) w
        by_cases hlt : l < hh
        case neg =>
          rw [if_neg hlt] at h
          cases h
          obtain rfl : l = hh := by omega
          refine RanV.pure (v := .slice (some ⟨Γ.id b, if Γ.sz b - m = l then o.toNat else o.toNat + l * q, none⟩) 0 (Γ.sz b - m - l)) ?_ ?_ hxo
          · simp only [Instr.sliceAt, Instr.slice, Sem.run_bind, run_underlying hu, Result.andThen_ok, MC.den, Cap.den, E.I, Option.map_none, hbd, szB_run hs, Sem.run_pure, Option.map_some, Addr.add_mid, Nat.sub_self]
            split <;> rfl
          · simp only [MV.rel, MV.den, MC.den, Nat.sub_sub]
            by_cases hc : Γ.sz b - m = l
            · rw [if_pos hc, if_pos (by omega)]
            · rw [if_neg hc, if_neg (by omega)]
        rw [if_pos hlt] at h
        cases h
        have hne : ¬ (Γ.sz b - m = l) := by omega
        refine RanV.pure (v := .slice (some ⟨Γ.id b, o.toNat + l * q, none⟩) (hh - l) (Γ.sz b - m - l)) ?_ ?_ hxo
        · simp only [Instr.sliceAt, Instr.slice, Sem.run_bind, run_underlying hu, Result.andThen_ok, MC.den, Cap.den, E.I, Option.map_none, hbd, szB_run hs, Sem.run_pure, Option.map_some, Addr.add_mid, if_neg hne]
        · simp only [MV.rel, MV.den, MC.den, Cap.den, E.I, Int.toNat_natCast]
          rw [show (o + ((l : Int) * (q : Int))).toNat = o.toNat + l * q from by
              rw [Int.toNat_add h0 (Int.mul_nonneg (by omega) (by omega)), Int.toNat_mul (by omega) (by omega)]; simp, Nat.sub_sub]
      · cases h
    · cases h
  · rename_i el hu hmx
    have hmx : mx = none := by cases mx <;> simp at hmx ⊢
    subst hmx
    have hx := MV.rel_c hx
    subst hx
    split at h
    · rename_i s hs hl hhi
      have h := R.v_ok h
      subst h
      have hbd2 := run_sliceBounds (P := P) (b := true) (cap := 0) (boundM_spec he hl) (boundM_spec he hhi) (Nat.le_refl _) (Nat.le_refl _) w
      refine RanV.pure (v := .slice none 0 0) ?_ rfl trivial
      simp only [Instr.sliceAt, Instr.slice, hbd2, Sem.run_bind, run_underlying hu, Result.andThen_ok, MC.den, Sem.run_pure, Option.map_none, szB_run hs, Nat.sub_self, ite_self]
    · cases h
  · cases h
theorem leB_spec {ρ : Val} {bs : Bds} {fs : Facts} (hb : bs.hold ρ) (hf : fs.hold ρ) {a c : E} (h : leB bs fs a c = true) : a.I ρ ≤ c.I ρ := by
  have le : ∀ x : E, isT (mkLe bs fs x c) = true → x.I ρ ≤ c.I ρ := fun x hx => by
    have := isT_spec (ρ := ρ) hx
    rw [mkLe_T hb hf, decide_eq_true_iff] at this
    exact this
  unfold leB at h
  rw [Bool.or_eq_true] at h
  rcases h with h | h
  · exact le a h
  · split at h
    · rename_i x y
      rw [Bool.or_eq_true] at h
      simp only [E.I, phiI2]
      rcases h with h | h
      · have := le x h; omega
      · have := le y h; omega
    · cases h
theorem boundE_spec {Γ : Ctx} {L : Nat → Prop} {ev : Operand → MV} {f : Operand → Value} (he : ∀ x, (ev x).rel Γ (f x) ∧ (ev x).on L) {z e : E} {x : Option Operand} (h : boundE z (x.map ev) = some e) (h0 : 0 ≤ e.I Γ.ρ) : IsBound (z.I Γ.ρ).toNat (e.I Γ.ρ).toNat (x.map f) := by
  cases x with
  | none => simp only [boundE, Option.map_none, Option.some.injEq] at h; subst h; exact .inl ⟨rfl, rfl⟩
  | some x =>
    have hr := (he x).1
    simp only [Option.map_some] at h ⊢
    unfold boundE at h
    split at h
    · rename_i hh; cases hh
    · rename_i k e' hh
      simp only [Option.some.injEq] at hh
      cases h
      rw [hh] at hr
      exact .inr ⟨k, e.I Γ.ρ, by rw [MV.rel_c hr]; rfl, h0, rfl⟩
    · cases h
theorem sliceX_sound {P : Program} {bs : Bds} {fs : Facts} {t : Nat} {x : MV} {ev : Operand → MV} {f : Operand → Value} {lo hi mx : Option Operand} {S : St} {r : Res} {Γ : Ctx} {L : Nat → Prop} {w : World} {xv : Value}
    (h : sliceX P bs fs t x (lo.map ev) (hi.map ev) (mx.map ev) S = .ok r) (hx : x.rel Γ xv) (hxo : x.on L) (hS : S.rel Γ L w) (he : ∀ x, (ev x).rel Γ (f x) ∧ (ev x).on L) (hb : bs.hold Γ.ρ) (hf : fs.hold Γ.ρ) :
    RanV P Γ L S r w (Instr.sliceAt t xv (lo.map f) (hi.map f) (mx.map f)) := by
  unfold sliceX at h
  split at h
  · rename_i r' hr
    cases h
    exact sliceM_sound hr hx hxo hS he hb hf
  · rename_i q hq
    split at h
    · rename_i el b o len cp hu hmx
      have hmx : mx = none := by cases mx <;> simp at hmx ⊢
      subst hmx
      have hx := MV.rel_c hx
      subst hx
      split at h
      · rename_i s l hh hs hl hhi
        split at h
        · rename_i hc
          simp only [Bool.and_eq_true] at hc
          obtain ⟨c1, c2, c3, c4⟩ := hc
          have h0 := geZero_spec hb hf c1
          have hl0 := geZero_spec hb hf c2
          have hlh := leB_spec hb hf c3
          have hhc := leB_spec hb hf c4
          have hbd := run_sliceBounds (P := P) (b := true) (len := (len.I Γ.ρ).toNat) (cap := (cp.I Γ.ρ).toNat) (boundE_spec he hl hl0) (boundE_spec he hhi (by omega)) (by omega) (by omega) w
          have heq := mkEq_T hb hf cp l
          have hrun : (Instr.sliceAt t (MC.den Γ (.slice b o len (.ex cp))) (lo.map f) (hi.map f) (none)).run P w = .ok (.slice (some (if (cp.I Γ.ρ).toNat = (l.I Γ.ρ).toNat then (⟨Γ.id b, (o.I Γ.ρ).toNat, none⟩ : Addr) else ⟨Γ.id b, (o.I Γ.ρ).toNat + (l.I Γ.ρ).toNat * s, none⟩)) ((hh.I Γ.ρ).toNat - (l.I Γ.ρ).toNat) ((cp.I Γ.ρ).toNat - (l.I Γ.ρ).toNat)) w := by
            simp only [Instr.sliceAt, Instr.slice, Sem.run_bind, run_underlying hu, Result.andThen_ok, MC.den, Cap.den, E.I, Int.toNat_zero, hbd, szB_run hs, Sem.run_pure, Option.map_some, Addr.add_mid]
            by_cases hnl : (cp.I Γ.ρ).toNat = (l.I Γ.ρ).toNat
            · simp only [hnl, if_true]
            · simp only [hnl, if_false]
          split at h
          · rename_i hbl
            have h := R.v_ok h
            subst h
            rw [hbl] at heq
            have e : cp.I Γ.ρ = l.I Γ.ρ := by simpa [E.T] using heq.symm
            refine RanV.pure hrun ?_ hxo
            simp only [MV.rel, MV.den, MC.den, Cap.den, mkSub_I, e, if_true]
            rw [show (hh.I Γ.ρ - l.I Γ.ρ).toNat = (hh.I Γ.ρ).toNat - (l.I Γ.ρ).toNat from by omega, show (l.I Γ.ρ - l.I Γ.ρ).toNat = (l.I Γ.ρ).toNat - (l.I Γ.ρ).toNat from by omega]
          · rename_i hbl
            have h := R.v_ok h
            subst h
            rw [hbl] at heq
            have e : cp.I Γ.ρ ≠ l.I Γ.ρ := by simpa [E.T] using heq.symm
            refine RanV.pure hrun ?_ hxo
            have hne : ¬ (cp.I Γ.ρ).toNat = (l.I Γ.ρ).toNat := by omega
            simp only [MV.rel, MV.den, MC.den, Cap.den, mkSub_I, mkAdd_I, mkMul_I, hne, if_false, E.I]
            rw [show (hh.I Γ.ρ - l.I Γ.ρ).toNat = (hh.I Γ.ρ).toNat - (l.I Γ.ρ).toNat from by omega, show (cp.I Γ.ρ - l.I Γ.ρ).toNat = (cp.I Γ.ρ).toNat - (l.I Γ.ρ).toNat from by omega,
              show (o.I Γ.ρ + l.I Γ.ρ * (s : Int)).toNat = (o.I Γ.ρ).toNat + (l.I Γ.ρ).toNat * s from by
                rw [Int.toNat_add h0 (Int.mul_nonneg (by omega) (by omega)), Int.toNat_mul (by omega) (by omega)]; simp]
          · cases h
        · cases h
      · cases h
    · exact absurd h (hq r)
end Sx
end Go.Proofs.Ytigblagodlfedaa
