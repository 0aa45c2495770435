/- What the small functions of the ledger's layers come to, for all numbers. -/
import Derived.Test.YtigblagodlfedaaRows
import Derived.Test.YtigblagodlfedaaKc
import Derived.Test.YtigblagodlfedaaLt
set_option linter.unusedVariables false
namespace Go.Proofs.Ytigblagodlfedaa.Pf
open Go.RowKit
open Sx (Env evF callF AS Known PF Val Bds Facts E MV mkIteI mkEq mkLt mkAnd mkNot mkSub mkFb)
def cellK (y : Int) : Int := if (y == 0) = true then 1 else if decide (15 < y) = true then 0 else if decide (11 < y) = true then 3 else 2
def cellL (y : Int) : Int := if decide (15 < y) = true then 15 else 0
def mayS (x y z : Int) : Bool := !decide (x < -65536) && (decide (x < 65536) && (!decide (z < -65536) && (decide (z < 65536) && (!decide (y < 0) && decide (y < 4)))))
def at0 (es : List E) (i : Nat) : E := es.getD i (.lit 0)
theorem at0_I (ρ : Val) (es : List E) (i : Nat) : (at0 es i).I ρ = (es.map (E.I ρ)).getD i 0 := Sx.getD_I es i
/-- A cell of two numbers. -/
def atP : PF where
  sh := [.int .i64]
  V := fun zs => .agg #[.int .u8 (cellK (zs.getD 0 0)), .int .u8 0]
  X := fun bs fs es => .agg [.int .u8 (mkIteI (mkEq bs fs (at0 es 0) (.lit 0)) (.lit 1) (mkIteI (mkLt bs fs (.lit 15) (at0 es 0)) (.lit 0) (mkIteI (mkLt bs fs (.lit 11) (at0 es 0)) (.lit 3) (.lit 2)))), .int .u8 (.lit 0)]
theorem atP_ok : atP.Ok where
  den bs fs es Γ hb hf _ := by
    simp only [atP, MV.rel, MV.den, Sx.densOf, List.map_cons, List.map_nil, Sx.MC.den, Sx.mkIteI_I, Sx.mkEq_T hb hf, Sx.mkLt_T hb hf, at0_I, E.I, cellK]
  on bs fs es L := fun m h => by
    simp only [List.mem_cons, List.not_mem_nil, or_false] at h
    rcases h with rfl | rfl <;> trivial
def litP : PF where
  sh := [.int .i64]
  V := fun zs => .agg #[.int .u8 (cellL (zs.getD 0 0)), .int .u8 0]
  X := fun bs fs es => .agg [.int .u8 (mkIteI (mkLt bs fs (.lit 15) (at0 es 0)) (.lit 15) (.lit 0)), .int .u8 (.lit 0)]
theorem litP_ok : litP.Ok where
  den bs fs es Γ hb hf _ := by
    simp only [litP, MV.rel, MV.den, Sx.densOf, List.map_cons, List.map_nil, Sx.MC.den, Sx.mkIteI_I, Sx.mkLt_T hb hf, at0_I, E.I, cellL]
  on bs fs es L := fun m h => by
    simp only [List.mem_cons, List.not_mem_nil, or_false] at h
    rcases h with rfl | rfl <;> trivial
def mayE (bs : Bds) (fs : Facts) (es : List E) : E :=
  mkAnd (mkNot (mkLt bs fs (at0 es 0) (.lit (-65536)))) (mkAnd (mkLt bs fs (at0 es 0) (.lit 65536)) (mkAnd (mkNot (mkLt bs fs (at0 es 2) (.lit (-65536)))) (mkAnd (mkLt bs fs (at0 es 2) (.lit 65536)) (mkAnd (mkNot (mkLt bs fs (at0 es 1) (.lit 0))) (mkLt bs fs (at0 es 1) (.lit 4))))))
theorem mayE_T {ρ : Val} {bs : Bds} {fs : Facts} (hb : bs.hold ρ) (hf : fs.hold ρ) (es : List E) : (mayE bs fs es).T ρ = mayS ((es.map (E.I ρ)).getD 0 0) ((es.map (E.I ρ)).getD 1 0) ((es.map (E.I ρ)).getD 2 0) := by
  simp only [mayE, mayS, Sx.mkAnd_T, Sx.mkNot_T, Sx.mkLt_T hb hf, at0_I, E.I]
def mayP : PF where
  sh := [.agg [.i64, .i64, .i64]]
  V := fun zs => .bool (mayS (zs.getD 0 0) (zs.getD 1 0) (zs.getD 2 0))
  X := fun bs fs es => .c (.bool (mayE bs fs es))
theorem mayP_ok : mayP.Ok where
  den bs fs es Γ hb hf _ := by simp only [mayP, MV.rel, MV.den, Sx.MC.den, mayE_T hb hf]
  on bs fs es L := trivial
/-- How many movable cells the land has at a spot, as the document says. -/
def movR (x y z : Int) : Int := if mayS x y z && !decide (0 < y) then 3840 else 0
def movP : PF where
  sh := [.agg [.i64, .i64, .i64]]
  V := fun zs => .int .i64 (movR (zs.getD 0 0) (zs.getD 1 0) (zs.getD 2 0))
  X := fun bs fs es => .c (.int .i64 (mkIteI (mkAnd (mayE bs fs es) (mkNot (mkLt bs fs (.lit 0) (at0 es 1)))) (.lit 3840) (.lit 0)))
theorem movP_ok : movP.Ok where
  den bs fs es Γ hb hf _ := by simp only [movP, MV.rel, MV.den, Sx.MC.den, Sx.mkIteI_I, Sx.mkAnd_T, Sx.mkNot_T, Sx.mkLt_T hb hf, mayE_T hb hf, at0_I, E.I, movR]
  on bs fs es L := trivial
def mvd (a b : Int) : Int := (if Sx.phiB1 1 b then 1 else 0) - (if Sx.phiB1 1 a then 1 else 0)
def mvdP : PF where
  sh := [.agg [.u8, .u8], .agg [.u8, .u8]]
  V := fun zs => .int .i64 (mvd (zs.getD 0 0) (zs.getD 2 0))
  X := fun bs fs es => .c (.int .i64 (mkSub (mkIteI (mkFb bs fs 1 (at0 es 2)) (.lit 1) (.lit 0)) (mkIteI (mkFb bs fs 1 (at0 es 0)) (.lit 1) (.lit 0))))
theorem mvdP_ok : mvdP.Ok where
  den bs fs es Γ hb hf _ := by simp only [mvdP, MV.rel, MV.den, Sx.MC.den, Sx.mkSub_I, Sx.mkIteI_I, Sx.mkFb_T hb hf, at0_I, E.I, mvd]
  on bs fs es L := trivial
noncomputable def E37 : Env := { bs := AS.bds atP.sh, fns := [(37, Try.f37)], keep := true }
theorem E37ok : E37.Ok Try.prog := Sx.ok_of (E := E37) ⟨⟨Try.func37, by kernel_rfl⟩, trivial⟩ rfl rfl
theorem h37 : PF.Holds Try.prog atP 37 := PF.of_run (E := E37) (n := 3000) (m := 60) atP_ok rfl Try.checked.mixed E37ok (Sx.none_sound _ _) (Sx.none_sure _) rfl (by kernel_rfl)
noncomputable def E38 : Env := { bs := AS.bds litP.sh, fns := [(38, Try.f38)], keep := true }
theorem E38ok : E38.Ok Try.prog := Sx.ok_of (E := E38) ⟨⟨Try.func38, by kernel_rfl⟩, trivial⟩ rfl rfl
theorem h38 : PF.Holds Try.prog litP 38 := PF.of_run (E := E38) (n := 3000) (m := 60) litP_ok rfl Try.checked.mixed E38ok (Sx.none_sound _ _) (Sx.none_sure _) rfl (by kernel_rfl)
noncomputable def E36 : Env := { bs := AS.bds mayP.sh, fns := [(36, Try.f36)], keep := true }
theorem E36ok : E36.Ok Try.prog := Sx.ok_of (E := E36) ⟨⟨Try.func36, by kernel_rfl⟩, trivial⟩ rfl rfl
theorem h36 : PF.Holds Try.prog mayP 36 := PF.of_run (E := E36) (n := 3000) (m := 60) mayP_ok rfl Try.checked.mixed E36ok (Sx.none_sound _ _) (Sx.none_sure _) rfl (by kernel_rfl)
noncomputable def E32 : Env := { bs := AS.bds mayP.sh, fns := [(32, Try.f32), (40, Try.f40)], keep := true }
theorem E32ok : E32.Ok Try.prog := Sx.ok_of (E := E32) ⟨⟨Try.func32, by kernel_rfl⟩, ⟨Try.func40, by kernel_rfl⟩, trivial⟩ rfl rfl
theorem h32 : PF.Holds Try.prog mayP 32 := PF.of_run (E := E32) (n := 3000) (m := 60) mayP_ok rfl Try.checked.mixed E32ok (Sx.none_sound _ _) (Sx.none_sure _) rfl (by kernel_rfl)
noncomputable def E34 : Env := { bs := AS.bds movP.sh, fns := [(34, Try.f34), (32, Try.f32), (40, Try.f40)], keep := true }
theorem E34ok : E34.Ok Try.prog := Sx.ok_of (E := E34) ⟨⟨Try.func34, by kernel_rfl⟩, ⟨Try.func32, by kernel_rfl⟩, ⟨Try.func40, by kernel_rfl⟩, trivial⟩ rfl rfl
theorem h34 : PF.Holds Try.prog movP 34 := PF.of_run (E := E34) (n := 3000) (m := 60) movP_ok rfl Try.checked.mixed E34ok (Sx.none_sound _ _) (Sx.none_sure _) rfl (by kernel_rfl)
noncomputable def E9 : Env := { bs := AS.bds mvdP.sh, fns := [(9, Try.f9), (28, Try.f28)], keep := true, sum := Sx.tabC (Kc.sT (AS.bds mvdP.sh)) }
theorem E9ok : E9.Ok Try.prog := Sx.ok_of (E := E9) ⟨⟨Try.func9, by kernel_rfl⟩, ⟨Try.func28, by kernel_rfl⟩, trivial⟩ rfl rfl
theorem h9 : PF.Holds Try.prog mvdP 9 := PF.of_run (E := E9) (n := 3000) (m := 60) mvdP_ok rfl Try.checked.mixed E9ok (Kc.sT_sound _) (Kc.sT_sure _) rfl (by kernel_rfl)
/-! ### .. as calls -/
def I64 (x : Int) : Prop := -9223372036854775808 ≤ x ∧ x ≤ 9223372036854775807
def U8 (x : Int) : Prop := 0 ≤ x ∧ x ≤ 255
abbrev Gives (f : Nat) (vs : Array Value) (v : Value) : Prop := ∀ (n : Nat) (w : World), CallsIn Fence.wide n Try.prog f vs w fun e w' => e = .returned v ∧ Below w.heap.size w w'
theorem c37 {y : Int} (h : I64 y) : Gives 37 #[.int .i64 y] (.agg #[.int .u8 (cellK y), .int .u8 0]) := fun n w => callsIn_wide.2 (h37 [y] (.cons h .nil) w)
theorem c38 {y : Int} (h : I64 y) : Gives 38 #[.int .i64 y] (.agg #[.int .u8 (cellL y), .int .u8 0]) := fun n w => callsIn_wide.2 (h38 [y] (.cons h .nil) w)
abbrev spotV (x y z : Int) : Value := .agg #[.int .i64 x, .int .i64 y, .int .i64 z]
theorem c36 {x y z : Int} (hx : I64 x) (hy : I64 y) (hz : I64 z) : Gives 36 #[spotV x y z] (.bool (mayS x y z)) := fun n w => callsIn_wide.2 (h36 [x, y, z] (.cons hx (.cons hy (.cons hz .nil))) w)
theorem c32 {x y z : Int} (hx : I64 x) (hy : I64 y) (hz : I64 z) : Gives 32 #[spotV x y z] (.bool (mayS x y z)) := fun n w => callsIn_wide.2 (h32 [x, y, z] (.cons hx (.cons hy (.cons hz .nil))) w)
theorem c34 {x y z : Int} (hx : I64 x) (hy : I64 y) (hz : I64 z) : Gives 34 #[spotV x y z] (.int .i64 (movR x y z)) := fun n w => callsIn_wide.2 (h34 [x, y, z] (.cons hx (.cons hy (.cons hz .nil))) w)
theorem c9 {a b c d : Int} (ha : U8 a) (hb : U8 b) (hc : U8 c) (hd : U8 d) : Gives 9 #[.agg #[.int .u8 a, .int .u8 b], .agg #[.int .u8 c, .int .u8 d]] (.int .i64 (mvd a c)) := fun n w => callsIn_wide.2 (h9 [a, b, c, d] (.cons ha (.cons hb (.cons hc (.cons hd .nil)))) w)
theorem c15 {k : Int} (h : U8 k) : Gives 15 #[.int .u8 k] (.bool (Sx.phiB1 1 k)) := fun n w => callsIn_wide.2 (Kc.c15 k h.1 h.2 w)
theorem c29 {k : Int} (h : U8 k) : Gives 29 #[.int .u8 k] (.bool (Sx.phiB1 1 k)) := fun n w => callsIn_wide.2 (Kc.c29 k h.1 h.2 w)
/-- What a ledger tells. -/
def totI (a b c d : Int) : Int := a + c - b - d
def totB (a b c d : Int) : Bool := !decide (totI a b c d < -9223372036854775808) && !decide (9223372036854775807 < totI a b c d)
abbrev tellV (a b c d : Int) : Value := .tuple #[.int .i64 (if totB a b c d then totI a b c d else 0), .bool (totB a b c d)]
abbrev ledgV (a b c d : Int) : Value := .agg #[.int .i64 a, .int .i64 b, .int .i64 c, .int .i64 d]
theorem h7 : PF.Holds Try.prog Sx.tellsP 7 := PF.of_chk (E := Lt.E7) (n := 3000) (chk := Sx.tellsK Lt.E7.bs) (by kernel_rfl) Try.checked.mixed Lt.E7Ok (Sx.none_sound _ _) (Sx.none_sure _) rfl (fun m g zs Γ _ hΓ hb hg h v hv => Sx.tellsK_ok m g zs Γ hΓ hb hg h v hv)
  [[]] (fun zs _ => ⟨_, List.mem_cons_self, Sx.forall_nil⟩) (Sx.forall_cons (by kernel_rfl) Sx.forall_nil)
theorem c7 {a b c d : Int} (ha : I64 a) (hb : I64 b) (hc : I64 c) (hd : I64 d) : Gives 7 #[ledgV a b c d] (tellV a b c d) := fun n w => callsIn_wide.2 (h7 [a, b, c, d] (.cons ha (.cons hb (.cons hc (.cons hd .nil)))) w)
/-! ### tells of what is told -/
def tT (bs : Bds) : List (Nat × Known) := [(7, PF.C Sx.tellsP bs)]
theorem tT_ok (bs : Bds) : Sx.Entries Try.prog bs (tT bs) := ⟨PF.entry Sx.tellsP_ok ⟨_, Try.func7, by kernel_rfl, by kernel_rfl⟩ h7, trivial⟩
noncomputable def E23 : Env := { bs := {}, fns := [(23, Try.f23)], sum := Sx.tabC (tT {}) }
theorem E23ok : E23.Ok Try.prog := Sx.ok_of (E := E23) ⟨⟨Try.func23, by kernel_rfl⟩, trivial⟩ rfl rfl
abbrev tA (a b c d n : Int) (s : Bool) : List MV := [.c (.int .i64 (.lit a)), .c (.int .i64 (.lit b)), .c (.int .i64 (.lit c)), .c (.int .i64 (.lit d)), .c (.int .i64 (.lit n)), .c (.bool (.bl s))]
abbrev tV (a b c d n : Int) (s : Bool) : List Value := [.int .i64 a, .int .i64 b, .int .i64 c, .int .i64 d, .int .i64 n, .bool s]
theorem tRel (a b c d n : Int) (s : Bool) : Sx.ArgsRel Sx.Γz (fun _ => False) (tA a b c d n s) (tV a b c d n s) :=
  .cons ⟨rfl, trivial⟩ (.cons ⟨rfl, trivial⟩ (.cons ⟨rfl, trivial⟩ (.cons ⟨rfl, trivial⟩ (.cons ⟨rfl, trivial⟩ (.cons ⟨rfl, trivial⟩ .nil)))))
theorem c23 (a b c d n : Int) (s : Bool) (h : Sx.allTrue E23.bs (callF Try.prog E23 (evF Try.prog E23 3000) 23 (tA a b c d n s) {} []) = true) : Gives 23 #[.int .i64 a, .int .i64 b, .int .i64 c, .int .i64 d, .int .i64 n, .bool s] (.bool true) := fun m w =>
  callsIn_wide.2 (Sx.law_true (Γ := Sx.Γz) (Sx.fast_sound Try.checked.mixed E23ok (Sx.tabC_sound (tT_ok _)) (Sx.tabC_sure (tT_ok _)) 3000) (Sx.fast_sure E23ok (Sx.tabC_sure (tT_ok _)) 3000) (tRel a b c d n s) (Sx.hold_none _) h w)
theorem t1 : Gives 23 #[.int .i64 5, .int .i64 2, .int .i64 1, .int .i64 3, .int .i64 1, .bool true] (.bool true) := c23 _ _ _ _ _ _ (by kernel_rfl)
theorem t2 : Gives 23 #[.int .i64 9223372036854775807, .int .i64 0, .int .i64 1, .int .i64 1, .int .i64 9223372036854775807, .bool true] (.bool true) := c23 _ _ _ _ _ _ (by kernel_rfl)
theorem t3 : Gives 23 #[.int .i64 9223372036854775807, .int .i64 0, .int .i64 1, .int .i64 0, .int .i64 0, .bool false] (.bool true) := c23 _ _ _ _ _ _ (by kernel_rfl)
theorem t4 : Gives 23 #[.int .i64 0, .int .i64 (-9223372036854775808), .int .i64 0, .int .i64 0, .int .i64 0, .bool false] (.bool true) := c23 _ _ _ _ _ _ (by kernel_rfl)
theorem t5 : Gives 23 #[.int .i64 (-9223372036854775808), .int .i64 0, .int .i64 0, .int .i64 0, .int .i64 (-9223372036854775808), .bool true] (.bool true) := c23 _ _ _ _ _ _ (by kernel_rfl)
theorem t6 : Gives 23 #[.int .i64 (-9223372036854775808), .int .i64 1, .int .i64 0, .int .i64 0, .int .i64 0, .bool false] (.bool true) := c23 _ _ _ _ _ _ (by kernel_rfl)
theorem t7 : Gives 23 #[.int .i64 9223372036854775807, .int .i64 (-9223372036854775808), .int .i64 9223372036854775807, .int .i64 (-9223372036854775808), .int .i64 0, .bool false] (.bool true) := c23 _ _ _ _ _ _ (by kernel_rfl)
end Go.Proofs.Ytigblagodlfedaa.Pf
