/- 'FallRows' of chapter 13 holds as stated: for every input the law returns true, and the argument reads afterwards as before, for every world it is called in. -/
import Derived.Test.YtdkdoopimfchbaaRows
import Derived.Test.YtdkdoopimfchbaaSyf
import Derived.Test.YtdkdoopimfchbaaKc
import Derived.Test.YtdkdoopimfchbaaFa
import Derived.WalkKit
import Derived.ProofKit
import Derived.OpenShut
import Derived.ChangeOld
import Derived.Below
import Derived.SizedLaws
namespace Go.Proofs.Ytdkdoopimfchbaa.fallRows
open Go.ChangeShapes Go.WideShapes Go.ChangeAt Go.RowKit
open Sx (Env evF callF Val Bds Holds holds_cons holds_nil SlIn)
set_option linter.unusedVariables false

theorem own : ownKnob Try.prog.godebug = none := by kernel_rfl
theorem laidOut : laidOutB Try.prog = true := by kernel_rfl
theorem bytesEl : Try.prog.bytesOf 23 = 2 := by kernel_rfl
/-! ### Without cells: run as it stands -/
noncomputable def E0 : Env := { bs := {}, sum := Sx.tabC (Kc.sT {}), fns := [(4, Try.f4), (8, Try.f8), (9, Try.f9), (10, Try.f10), (12, Try.f12), (13, Try.f13), (14, Try.f14), (15, Try.f15), (24, Try.f24), (26, Try.f26), (27, Try.f27), (28, Try.f28), (29, Try.f29), (30, Try.f30), (32, Try.f32), (33, Try.f33)] }
theorem e0Ok : E0.Ok Try.prog := Sx.ok_of (E := E0) ⟨⟨Try.func4, by kernel_rfl⟩, ⟨Try.func8, by kernel_rfl⟩, ⟨Try.func9, by kernel_rfl⟩, ⟨Try.func10, by kernel_rfl⟩, ⟨Try.func12, by kernel_rfl⟩, ⟨Try.func13, by kernel_rfl⟩, ⟨Try.func14, by kernel_rfl⟩, ⟨Try.func15, by kernel_rfl⟩, ⟨Try.func24, by kernel_rfl⟩, ⟨Try.func26, by kernel_rfl⟩, ⟨Try.func27, by kernel_rfl⟩, ⟨Try.func28, by kernel_rfl⟩, ⟨Try.func29, by kernel_rfl⟩, ⟨Try.func30, by kernel_rfl⟩, ⟨Try.func32, by kernel_rfl⟩, ⟨Try.func33, by kernel_rfl⟩, trivial⟩ rfl rfl
theorem nilWalk (w : World) : Calls Try.prog 4 #[.slice none 0 0] w fun e w' => e = .returned (.bool true) ∧ Below w.heap.size w w' :=
  Sx.sl_nil (E := E0) (n := 3000) Try.checked.mixed e0Ok (Sx.tabC_sound (Kc.sT_ok _)) (Sx.tabC_sure (Kc.sT_ok _)) ⟨Val.zero, Sx.hold_none _⟩ (by kernel_rfl) w
theorem emptyWalk (w : World) (g off cap : Nat) : Calls Try.prog 4 #[.slice (some ⟨g, off, none⟩) 0 cap] w fun e w' => e = .returned (.bool true) ∧ Below w.heap.size w w' :=
  Sx.sl_empty (E := E0) (n := 3000) Try.checked.mixed e0Ok (Sx.tabC_sound (Kc.sT_ok _)) (Sx.tabC_sure (Kc.sT_ok _)) (fun off cap => ⟨fun i => if i = 91 then off else if i = 90 then cap else 0, fun _ => false, fun _ _ => 0, fun _ => ByteArray.empty⟩)
    (fun _ _ => ⟨rfl, rfl, Sx.hold_none _⟩) (by kernel_rfl) w g off cap

/-! ### A row of cells: what is pushed, and how far it falls, is known -/
def pro (A : Nat → Int) (off len cap : Nat) : Val := Fa.val A off len cap (Fa.rowN A len) (Fa.rowE A len) (Fa.landN A len)
def bs1 : Bds where
  v := [(0, 0), (1, 70368744177663), (0, 8), (0, 12), (0, 70368744177663)]
  a := [(0, 255)]
  J := fun ρ => ρ.i 2 = Fa.rowN (ρ.a 0) (ρ.i 1).toNat ∧ ρ.i 3 = Fa.rowE (ρ.a 0) (ρ.i 1).toNat ∧ ρ.i 4 = Fa.landN (ρ.a 0) (ρ.i 1).toNat
theorem hold1 (A : Nat → Int) (off len cap : Nat) (h0 : 0 < len) (_ : len ≤ cap) (hl : len ≤ 70368744177663) (hA : ∀ n, ∃ k ∈ ([.u8, .u8] : List IntKind), k.min ≤ A n ∧ A n ≤ k.max) : bs1.hold (pro A off len cap) := by
  have hb := Fa.row_bds A len
  have hp := Sx.lead_le (fun k => Sx.cellP 2 A (k * 2 + 2)) (len - 1)
  have hn : 0 ≤ Fa.landN A len ∧ Fa.landN A len ≤ 70368744177663 := by unfold Fa.landN Fa.landP; split <;> omega
  refine ⟨fun i l u h => ?_, fun i l u h n => ?_, rfl, rfl, rfl⟩
  · rcases i with _ | _ | _ | _ | _ | i
    · simp [bs1] at h; obtain ⟨rfl, rfl⟩ := h; exact ⟨Int.le_refl _, Int.le_refl _⟩
    · simp [bs1] at h; obtain ⟨rfl, rfl⟩ := h; show 1 ≤ (len : Int) ∧ (len : Int) ≤ _; omega
    · simp [bs1] at h; obtain ⟨rfl, rfl⟩ := h; exact ⟨hb.1, hb.2.1⟩
    · simp [bs1] at h; obtain ⟨rfl, rfl⟩ := h; exact ⟨hb.2.2.1, hb.2.2.2⟩
    · simp [bs1] at h; obtain ⟨rfl, rfl⟩ := h; exact hn
    · simp [bs1] at h
  · rcases i with _ | i
    · simp [bs1] at h; obtain ⟨rfl, rfl⟩ := h; exact Fa.a255 hA n
    · simp [bs1] at h
def XR : Sx.MV := .tup [(false, [.int .i64 (.var 2)]), (false, [.int .i64 (.var 3)])]
def XL : Sx.MV := .c (.int .i64 (.var 4))
def slT : List (Nat × Sx.KnownS) := [(12, Sx.arrC bs1 [.u8, .u8] (.av 0) (.var 1) XR), (13, Sx.arrC bs1 [.u8, .u8] (.av 0) (.var 1) XR), (14, Sx.arrC bs1 [.u8, .u8] (.av 0) (.var 1) XL), (15, Sx.arrC bs1 [.u8, .u8] (.av 0) (.var 1) XL)]
theorem rng (ρ : Val) (hb : bs1.hold ρ) : 0 < (Sx.E.var 1).I ρ ∧ (Sx.E.var 1).I ρ ≤ 70368744177663 ∧ ∀ n, ∃ k ∈ ([.u8, .u8] : List IntKind), k.min ≤ (Sx.E.av 0).A ρ n ∧ (Sx.E.av 0).A ρ n ≤ k.max := by
  have h1 := hb.1 1 _ _ rfl
  exact ⟨show 0 < ρ.i 1 by omega, h1.2, fun n => ⟨.u8, by simp, hb.2.1 0 _ _ rfl n⟩⟩
theorem xr (Γ : Sx.Ctx) (hb : bs1.hold Γ.ρ) : XR.rel Γ (Fa.rowR ((Sx.E.av 0).A Γ.ρ) ((Sx.E.var 1).I Γ.ρ).toNat) := by
  show Fa.rowR (Γ.ρ.a 0) (Γ.ρ.i 1).toNat = .tuple #[.int .i64 (Γ.ρ.i 2), .int .i64 (Γ.ρ.i 3)]
  rw [hb.2.2.1, hb.2.2.2.1]; rfl
theorem xl (Γ : Sx.Ctx) (hb : bs1.hold Γ.ρ) : XL.rel Γ (Fa.landR ((Sx.E.av 0).A Γ.ρ) ((Sx.E.var 1).I Γ.ρ).toNat) := by
  show Fa.landR (Γ.ρ.a 0) (Γ.ρ.i 1).toNat = .int .i64 (Γ.ρ.i 4)
  rw [hb.2.2.2.2]; rfl
theorem xrOn (L : Nat → Prop) : XR.on L := fun p h => by
  simp only [List.mem_cons, List.not_mem_nil, or_false] at h
  rcases h with rfl | rfl <;> (intro m hm; simp only [List.mem_cons, List.not_mem_nil, or_false] at hm; subst hm; trivial)
theorem slT_ok : Sx.EntriesS Try.prog bs1 slT :=
  ⟨Sx.arrC_entry ⟨_, Try.func12, by kernel_rfl, by kernel_rfl⟩ Fa.c12 rng xr xrOn, Sx.arrC_entry ⟨_, Try.func13, by kernel_rfl, by kernel_rfl⟩ Fa.c13 rng xr xrOn,
   Sx.arrC_entry ⟨_, Try.func14, by kernel_rfl, by kernel_rfl⟩ Fa.c14 rng xl (fun _ => trivial), Sx.arrC_entry ⟨_, Try.func15, by kernel_rfl, by kernel_rfl⟩ Fa.c15 rng xl (fun _ => trivial), trivial⟩
noncomputable def loops1 : List (Nat × Code) := [(0, Sx.loopAt Try.f4 0)]
noncomputable def tab1 : Sx.Tab := [(0, (Sx.loopAt Try.f4 0, [{ sp := Sx.eachS 8 (.var 1) }]))]
noncomputable def E1 : Env := { bs := bs1, sum := Sx.tabS slT (Kc.sT bs1), fns := [(4, Sx.Func.marked Try.f4 [(0, 0)])], loops := Sx.runTab bs1 tab1, lk := Sx.lkOf loops1 }
theorem same1 (ρ v : Val) (hs : Sx.SameB ⟨100, [], [], []⟩ v ρ) (h : bs1.hold ρ) : bs1.hold v := Sx.hold_same hs (by decide) (by decide) (fun hJ => by
  refine ⟨?_, ?_, ?_⟩
  · rw [Sx.same_i hs (by decide), Sx.same_i hs (by decide), Sx.same_a hs (by decide)]; exact hJ.1
  · rw [Sx.same_i hs (by decide), Sx.same_i hs (by decide), Sx.same_a hs (by decide)]; exact hJ.2.1
  · rw [Sx.same_i hs (by decide), Sx.same_i hs (by decide), Sx.same_a hs (by decide)]; exact hJ.2.2) h
theorem good1 : ∃ J μ, Sx.Good bs1 (Sx.eachS 8 (.var 1)) J μ := ⟨_, _, Sx.eachS_good same1 rfl (fun ρ hb => by have := hb.1 1 _ _ rfl; show 0 ≤ ρ.i 1 ∧ ρ.i 1 ≤ _; omega)⟩
theorem e1Ok : E1.Ok Try.prog :=
  Sx.env_ok (Sx.forall_cons (Sx.fnOk_marked Try.func4 (by kernel_rfl) (by kernel_rfl) (Sx.forall_cons rfl Sx.forall_nil)) Sx.forall_nil) (Sx.loopsOk_mem (l := loops1) (tab := tab1) rfl rfl (Sx.forall_cons (Sx.mk_eq (by kernel_rfl) rfl) Sx.forall_nil) (Sx.forall_cons (Sx.forall_cons good1 Sx.forall_nil) Sx.forall_nil))
theorem walk {v : Value} {w : World} (h : SlIn w [.u8, .u8] v) : Calls Try.prog 4 #[v] w fun e w' => e = .returned (.bool true) ∧ Below w.heap.size w w' :=
  Sx.law_sl (nilWalk w) (emptyWalk w) (fun g off len cap A h0 hc hl hA hr => Sx.sl_row (E := E1) (n := 3000) Try.checked.mixed e1Ok (Sx.tabS_sound slT_ok (Kc.sT_ok _)) (Sx.tabS_sure slT_ok (Kc.sT_ok _)) pro (fun _ _ _ _ => Fa.val_ok ..) hold1
    [Fa.base] (fun A off len cap h0 hc _ => ⟨_, List.mem_cons_self, Fa.base_ok h0 hc⟩) (Sx.forall_cons (by kernel_rfl) Sx.forall_nil) w g off len cap A h0 hc hl hA hr) h

set_option maxRecDepth 100000 in
theorem lifted (os : Os) (started : os.Started) (H : Type) (enc : TypeId × Value → H) :
    ReturnsInHanded {} Try.checked os 4 .any (Rows.fallRowsSpec.pre6 enc Try.prog Try.f4 Rows.fallRowsRow.domain false) (Rows.fallRowsSpec.post enc Try.prog Try.f4 false true false false) := by
  refine returnsInHanded_of_change_sized (C := Try.checked) own started (by kernel_rfl) Try.func4
    (ChangeSpec.witness6 (enc := enc) (C := Try.checked) false ⟨#[], #[.slice none 0 0], []⟩ 8 (by kernel_rfl) (by kernel_rfl) (by kernel_rfl) (by kernel_rfl)) ?_
  intro W base args ds gs before hval0 hW _ hsz0 _
  have hsz : (DataW.weightsEach Try.prog (Try.f4.params.toList ++ Rows.fallRowsSpec.plain.varTypes Try.prog) (ds ++ gs)).all (· ≤ reachBytes) = true := hsz0
  have hval : ∀ (j : Nat) t v, Try.f4.params[j]? = some t → args[j]? = some v → Value.okWide Try.prog W .any base t v := hval0
  have hW' := hW
  obtain ⟨p, q, hA0, hV, rfl, hfz, hnd⟩ := hW
  have hA : DataW.TrodAll enc Try.prog W 0 (fun _ => true) true Try.f4.params.toList args.toList ds p := hA0
  rw [Try.params4] at hA hval hsz
  obtain ⟨v0, vs0, d0, ds0, p0, q0, hargs, rfl, rfl, h0, r0⟩ := trodAll_cons hA
  obtain ⟨rfl, rfl, rfl⟩ := trodAll_nil r0
  obtain rfl : args = #[v0] := by cases args; simp_all
  obtain ⟨rfl, rfl⟩ := trodVars_none hV
  have lt0 : ∀ x ∈ p0, x.block < W.heap.size := by obtain ⟨m, hm⟩ := h0; exact DataW.trod_lt m _ _ _ hm
  have hsl : SlIn W [.u8, .u8] v0 := Sx.slIn_of (d := 8) Try.underlying38 (by kernel_rfl) (by kernel_rfl) (by decide) (hval 0 _ v0 rfl rfl) h0 (fun el sp hd => by
    subst hd
    have := sized_slice hsz (j := 0) (t := 38) (e := 23) rfl rfl Try.underlying38
    rw [bytesEl] at this
    simp only [reachBytes] at this
    omega)
  clear hA0 hval0 hsz0
  refine (walk hsl).mono fun e W' ⟨he, bel⟩ => ?_
  subst he
  exact ⟨_, rfl, _, _, _, [], _, [], hW', trodAll_mk1 (shut_bool Try.underlying4 _), (trodAll_cons_mk (Below.trod laidOut (by kernel_rfl) (of_decide_eq_true (by kernel_rfl)) h0 bel lt0) trodAll_mk0), rfl, bel.frame _, fun h => by cases h⟩

theorem over : Rows.fallRowsRow.holds Try.pinned (OpenSpec.ofChange Rows.fallRowsSpec) :=
  OpenClaim.holds_of_wide 4 Try.f4 rfl rfl rfl rfl rfl rfl rfl ⟨rfl, rfl, rfl, rfl, rfl⟩ rfl rfl rfl rfl rfl (by kernel_rfl) Try.func4 (by kernel_rfl)
    (of_decide_eq_true (by kernel_rfl)) (by unfold Func.isWrapper; first | (rw [if_pos (by decide +kernel)]; kernel_rfl) | (rw [if_neg (by decide +kernel)]; exact ⟨rfl, rfl⟩))
    (fun os started H enc _ => lifted os started H enc)

/-- THE STATEMENT. -/
theorem proved : Rows.FallRowsSaid := over
#print axioms proved
end Go.Proofs.Ytdkdoopimfchbaa.fallRows
