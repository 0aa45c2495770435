/- Loops that are known by what they come to: the runner, and that it is sound. -/
import Derived.Test.YtigblagodlfedaaSya
namespace Go.Proofs.Ytigblagodlfedaa
namespace Sx
open Go.RowKit

inductive Kd where
  | next | dead | out
  deriving DecidableEq
/-- One way through a round: what is asked on it; where it leads; what its symbols are then. -/
structure Way where
  tests : List (E × Bool) := []
  ex : Ex := .normal
  σ : Sub := {}
  kd : Kd := .next
  cond : E := .bl true
  fin : Sub := {}
  facts : List (E × Bool) := []
  xtra : List (Nat × MV) := []
/-- A loop: the slots and blocks that it turns, in symbols of their own; what they are at the start; what is known at the head. -/
structure LSpec where
  M : Nat
  tpl : List (Nat × MV) := []
  tplB : List (Nat × Blk) := []
  ini : Sub := {}
  pre : List (E × Bool) := []
  hfs : List (E × Bool) := []
  d : List Nat := []
  ways : List Way := []
  /-- slices that grow: a slot, the number that its block goes by, its kinds -/
  rn : List (Nat × Nat × List IntKind) := []
  /-- slots that are not told at the head -/
  fg : List Nat := []
  /-- what the first round comes to (none: the head is the start's) -/
  first : List Way := []
  /-- .. and what holds ahead of it -/
  ffs : List (E × Bool) := []
def Holds (l : List (E × Bool)) (ρ : Val) : Prop := ∀ p ∈ l, p.1.T ρ = p.2

/-! ### Sieves -/
def keepFr (M : Keys) (n : Nat) : Fr → Fr
  | .e => .e
  | .n l v r => .n (keepFr M n l) (match v.below M n with | true => v | false => .unk) (keepFr M n r)
theorem keepFr_get (M : Keys) (n : Nat) : ∀ (f : Fr) (t : Nat), (keepFr M n f).get .unk t = match (f.get .unk t).below M n with | true => f.get .unk t | false => .unk
  | .e, t => by simp [keepFr, Tri.get_e, MV.below]
  | .n l v r, t => by
    rcases Tri.cases3 t with rfl | ⟨t, rfl⟩ | ⟨t, rfl⟩
    · rfl
    · simp only [keepFr, Tri.get_n_odd]; exact keepFr_get M n l t
    · simp only [keepFr, Tri.get_n_even]; exact keepFr_get M n r t
def keepBs (M : Keys) (n : Nat) : Tri Blk → Tri Blk
  | .e => .e
  | .n l v r => .n (keepBs M n l) (match v.below M n with | true => v | false => .gone) (keepBs M n r)
theorem keepBs_get (M : Keys) (n : Nat) : ∀ (f : Tri Blk) (t : Nat), (keepBs M n f).get .gone t = match (f.get .gone t).below M n with | true => f.get .gone t | false => .gone
  | .e, t => by simp [keepBs, Tri.get_e, Blk.below]
  | .n l v r, t => by
    rcases Tri.cases3 t with rfl | ⟨t, rfl⟩ | ⟨t, rfl⟩
    · rfl
    · simp only [keepBs, Tri.get_n_odd]; exact keepBs_get M n l t
    · simp only [keepBs, Tri.get_n_even]; exact keepBs_get M n r t
def setT {α : Type} (z : α) : List (Nat × α) → Tri α → Tri α
  | [], f => f
  | p :: l, f => setT z l (f.set z p.1 p.2)
def slotsOk {α : Type} : List (Nat × α) → Bool
  | [] => true
  | p :: l => Nat.blt p.1 4000 && slotsOk l
theorem setT_get {α : Type} {z : α} : ∀ (l : List (Nat × α)) (f : Tri α) (t : Nat), slotsOk l = true → (∃ p ∈ l, p.1 = t ∧ (setT z l f).get z t = p.2) ∨ ((∀ p ∈ l, p.1 ≠ t) ∧ (setT z l f).get z t = f.get z t)
  | [], _, _, _ => .inr ⟨fun p hp => absurd hp (by simp), rfl⟩
  | p :: l, f, t, h => by
    simp only [slotsOk, Bool.and_eq_true, Nat.blt_eq] at h
    rw [setT]
    rcases setT_get l (f.set z p.1 p.2) t h.2 with ⟨q, hq, h1, h2⟩ | ⟨h1, h2⟩
    · exact .inl ⟨q, by simp [hq], h1, h2⟩
    · rw [h2, Tri.get_set _ _ _ _ (by omega)]
      by_cases ht : t = p.1
      · exact .inl ⟨p, by simp, ht.symm, by rw [if_pos ht]⟩
      · refine .inr ⟨fun q hq => ?_, by rw [if_neg ht]⟩
        rcases List.mem_cons.1 hq with rfl | hq
        · exact Ne.symm ht
        · exact h1 q hq
def fsOf (l : List (E × Bool)) : Facts := l.map fun p => ⟨mask p.1, p.1, p.2⟩
theorem fsOf_hold {ρ : Val} {l : List (E × Bool)} (h : Holds l ρ) : (fsOf l).hold ρ := fun q hq => by
  obtain ⟨p, hp, rfl⟩ := List.mem_map.1 hq
  exact h p hp
def keepFs (M : Keys) : Facts → Facts
  | [] => []
  | p :: l => match p.e.under M with | true => p :: keepFs M l | false => keepFs M l
theorem keepFs_mem {M : Keys} : ∀ {l : Facts} {p : Fact}, p ∈ keepFs M l → p ∈ l ∧ p.e.under M = true
  | [], p, h => by simp [keepFs] at h
  | q :: l, p, h => by
    unfold keepFs at h
    split at h
    · rename_i hu
      rcases List.mem_cons.1 h with rfl | h
      · exact ⟨by simp, hu⟩
      · exact ⟨by simp [(keepFs_mem h).1], (keepFs_mem h).2⟩
    · exact ⟨by simp [(keepFs_mem h).1], (keepFs_mem h).2⟩
theorem keepFs_hold {M : Keys} {l : Facts} {ρ v : Val} (h : l.hold ρ) (hs : SameB M v ρ) : (keepFs M l).hold v := fun p hp => by
  obtain ⟨h1, h2⟩ := keepFs_mem hp
  rw [(below_eq hs p.e h2).2.1]
  exact h p h1
theorem hold_append {ρ : Val} {a b : Facts} (ha : a.hold ρ) (hb : b.hold ρ) : (a ++ b).hold ρ := fun p hp => by
  rcases List.mem_append.1 hp with hp | hp
  · exact ha p hp
  · exact hb p hp
/-- All that is known here is known there, and the same. -/
def leT {α : Type} (z? : α → Bool) (q : α → α → Bool) (z : α) : Tri α → Tri α → Bool
  | .e, _ => true
  | .n l v r, g => (z? v || q v (g.top z)) && (leT z? q z l g.left && leT z? q z r g.right)
theorem leT_get {α : Type} {z? : α → Bool} {q : α → α → Bool} {z : α} (hz : z? z = true) : ∀ (f g : Tri α) (t : Nat), leT z? q z f g = true → z? (f.get z t) = true ∨ q (f.get z t) (g.get z t) = true
  | .e, _, t, _ => .inl (by rw [Tri.get_e]; exact hz)
  | .n l v r, g, t, h => by
    simp only [leT, Bool.and_eq_true, Bool.or_eq_true] at h
    rcases Tri.cases3 t with rfl | ⟨t, rfl⟩ | ⟨t, rfl⟩
    · rw [← Tri.top_get g]; exact h.1
    · rw [Tri.get_n_odd, ← Tri.left_get g]; exact leT_get hz l g.left t h.2.1
    · rw [Tri.get_n_even, ← Tri.right_get g]; exact leT_get hz r g.right t h.2.2
def MV.unk? : MV → Bool | .unk => true | _ => false
theorem MV.unk?_eq {m : MV} (h : m.unk? = true) : m = .unk := by cases m <;> simp [MV.unk?] at h ⊢
theorem Blk.gone?_eq {b : Blk} (h : b.gone? = true) : b = .gone := by cases b <;> simp [Blk.gone?] at h ⊢

/-! ### The checks -/
def geM (M : Nat) : List (Nat × E) → Bool
  | [] => true
  | p :: l => Nat.ble M p.1 && geM M l
def Sub.from_ (σ : Sub) (M : Nat) : Bool := geM M σ.i && (geM M σ.b && geM M σ.a)
theorem pick_low {M j : Nat} {d : E} (hj : j < M) : ∀ {l : List (Nat × E)}, geM M l = true → pick j d l = d
  | [], _ => rfl
  | p :: l, h => by
    simp only [geM, Bool.and_eq_true] at h
    have hp := Nat.le_of_ble_eq_true h.1
    have ih := pick_low (d := d) hj h.2
    unfold pick at ih ⊢
    rw [lookup, if_neg (by intro e; have := Nat.eq_of_beq_eq_true e; omega)]
    exact ih
theorem upd_low {σ : Sub} {M : Nat} (h : σ.from_ M = true) (ρ : Val) : SameB ⟨M, [], [], []⟩ (ρ.upd σ) ρ := by
  simp only [Sub.from_, Bool.and_eq_true] at h
  have key : ∀ j, Keys.has M [] j = true → j < M := fun j hj => by
    unfold Keys.has at hj
    split at hj
    · rename_i hb; exact by rwa [Nat.blt_eq] at hb
    · simp [elemN] at hj
  refine ⟨fun j hj => ?_, fun j hj => ?_, fun j hj => ?_, rfl⟩
  · show (pick j (.var j) σ.i).I ρ = _; rw [pick_low (key j hj) h.1]; rfl
  · show (pick j (.bv j) σ.b).T ρ = _; rw [pick_low (key j hj) h.2.1]; rfl
  · show (pick j (.av j) σ.a).A ρ = _; rw [pick_low (key j hj) h.2.2]; rfl
def testsB (bs : Bds) (fs : Facts) : List (E × Bool) → Bool
  | [] => true
  | p :: l => (match settle fs (simpT bs fs p.1) with | .bl b => b == p.2 | _ => false) && testsB bs fs l
theorem testsB_spec {bs : Bds} {fs : Facts} {ρ : Val} (hb : bs.hold ρ) (hf : fs.hold ρ) : ∀ {l : List (E × Bool)}, testsB bs fs l = true → Holds l ρ
  | [], _ => fun p hp => absurd hp (by simp)
  | q :: l, h => by
    simp only [testsB, Bool.and_eq_true] at h
    intro p hp
    rcases List.mem_cons.1 hp with rfl | hp
    · have h1 := h.1
      split at h1
      · rename_i b hs
        have := settle_T hf (simpT bs fs p.1)
        rw [hs, simpT_T hb hf] at this
        simp only [E.T] at this
        rw [← this]
        simpa using h1
      · cases h1
    · exact testsB_spec hb hf h.2 p hp
def fitFr (σ : Sub) (n : Nat) (f : Fr) : List (Nat × MV) → Bool
  | [] => true
  | p :: l => MV.beq (p.2.sub σ) (f.get .unk p.1) && (p.2.lt n && fitFr σ n f l)
theorem fitFr_mem {σ : Sub} {n : Nat} {f : Fr} : ∀ {l : List (Nat × MV)}, fitFr σ n f l = true → ∀ p ∈ l, p.2.sub σ = f.get .unk p.1 ∧ p.2.lt n = true
  | [], _, p, hp => absurd hp (by simp)
  | q :: l, h, p, hp => by
    simp only [fitFr, Bool.and_eq_true] at h
    rcases List.mem_cons.1 hp with rfl | hp
    · exact ⟨MV.eq_of h.1, h.2.1⟩
    · exact fitFr_mem h.2.2 p hp
def fitBs (σ : Sub) (n : Nat) (S : St) : List (Nat × Blk) → Bool
  | [] => true
  | p :: l => Blk.beq (p.2.sub σ) (S.get p.1) && (p.2.lt n && (Nat.blt p.1 n && fitBs σ n S l))
theorem fitBs_mem {σ : Sub} {n : Nat} {S : St} : ∀ {l : List (Nat × Blk)}, fitBs σ n S l = true → ∀ p ∈ l, p.2.sub σ = S.get p.1 ∧ p.2.lt n = true ∧ p.1 < n
  | [], _, p, hp => absurd hp (by simp)
  | q :: l, h, p, hp => by
    simp only [fitBs, Bool.and_eq_true, Nat.blt_eq] at h
    rcases List.mem_cons.1 hp with rfl | hp
    · exact ⟨Blk.eq_of h.1, h.2.1, h.2.2.1⟩
    · exact fitBs_mem h.2.2.2 p hp
def dIn (n : Nat) (d : List Nat) : List Nat → Bool
  | [] => true
  | j :: l => (match Nat.blt j n with | true => elemN j d | false => true) && dIn n d l
theorem dIn_mem {n : Nat} {d : List Nat} : ∀ {l : List Nat}, dIn n d l = true → ∀ j ∈ l, j < n → j ∈ d
  | [], _, j, hj, _ => absurd hj (by simp)
  | q :: l, h, j, hj, hn => by
    simp only [dIn, Bool.and_eq_true] at h
    rcases List.mem_cons.1 hj with rfl | hj
    · have h1 := h.1
      rw [show Nat.blt j n = true from by rw [Nat.blt_eq]; exact hn] at h1
      exact elemN_mem h1
    · exact dIn_mem h.2 j hj hn
def unks (l : List (Nat × MV)) : List (Nat × MV) := l.map fun p => (p.1, .unk)
def gones (l : List (Nat × Blk)) : List (Nat × Blk) := l.map fun p => (p.1, .gone)
def LSpec.K (sp : LSpec) : Keys := ⟨sp.M, [], [], []⟩
def headL (sp : LSpec) (l : Leaf) : Leaf :=
  ⟨.normal, l.N, setT .unk sp.tpl (keepFr sp.K l.S.n l.fr), ⟨setT .gone sp.tplB (keepBs sp.K l.S.n l.S.t), l.S.n⟩, fsOf sp.hfs ++ keepFs sp.K l.fs, joinD sp.d l.d⟩
def startB (bs : Bds) (sp : LSpec) (l : Leaf) : Bool :=
  slotsOk sp.tpl && (slotsOk sp.tplB && (sp.ini.ok && (sp.ini.from_ sp.M && (testsB bs l.fs sp.pre && (fitFr sp.ini l.S.n l.fr sp.tpl && fitBs sp.ini l.S.n l.S sp.tplB)))))
def nextB (sp : LSpec) (li : Leaf) (σ : Sub) (l : Leaf) : Bool :=
  σ.ok && (σ.from_ sp.M && (fitFr σ li.S.n l.fr sp.tpl && (fitBs σ li.S.n l.S sp.tplB && (Nat.ble li.S.n l.S.n && (Nat.beq l.N li.N && (dIn li.S.n li.d l.d &&
    (leT MV.unk? MV.beq .unk (setT .unk (unks sp.tpl) li.fr) l.fr && leT Blk.gone? Blk.beq .gone (setT .gone (gones sp.tplB) li.S.t) l.S.t)))))))
def keysOf (M : Nat) (σ : Sub) : Keys := ⟨M, σ.i.map (·.1), σ.b.map (·.1), σ.a.map (·.1)⟩
def outB (sp : LSpec) (w : Way) (l : Leaf) : Bool :=
  w.σ.ok && (w.fin.ok && (w.fin.from_ sp.M && (slotsOk (sp.tpl ++ w.xtra) && (slotsOk sp.tplB && (fitFr w.σ l.S.n l.fr (sp.tpl ++ w.xtra) && (fitBs w.σ l.S.n l.S sp.tplB && (w.σ.from_ sp.M &&
    ((sp.tpl ++ w.xtra).all (fun p => p.2.below (keysOf sp.M w.σ) l.S.n) && sp.tplB.all (fun p => p.2.below (keysOf sp.M w.σ) l.S.n)))))))))
def outL (sp : LSpec) (l0 : Leaf) (w : Way) (l : Leaf) : Leaf :=
  ⟨l.ex, l.N, setT .unk ((sp.tpl ++ w.xtra).map fun p => (p.1, p.2.sub w.fin)) (keepFr sp.K l.S.n l.fr),
   ⟨setT .gone (sp.tplB.map fun p => (p.1, p.2.sub w.fin)) (keepBs sp.K l.S.n l.S.t), l.S.n⟩, fsOf w.facts ++ keepFs sp.K l0.fs, l.d⟩
def wayB (bs : Bds) (sp : LSpec) (li : Leaf) (w : Way) (l : Leaf) : Bool :=
  exSame w.ex l.ex && (testsB bs l.fs w.tests && (match w.kd with
    | .next => exSame w.ex .normal && nextB sp li w.σ l
    | .dead => true
    | .out => !(exSame w.ex .normal) && outB sp w l))
def wayIx (bs : Bds) (sp : LSpec) (li l : Leaf) : List Way → Nat → Option Nat
  | [], _ => none
  | w :: r, i => match wayB bs sp li w l with | true => some i | false => wayIx bs sp li l r (i + 1)
/-- All leaves of a tree, none failed. -/
def gather : Tr → List Leaf → (List Leaf → Tr) → Tr
  | .leaf l, acc, k => k (l :: acc)
  | .br _ _ t f, acc, k => gather t acc fun acc => gather f acc k
  | .dead, acc, k => k acc
  | .fail s, _, _ => .fail s
def pairUp (bs : Bds) (sp : LSpec) (li : Leaf) : List Leaf → List (Nat × Leaf) → (List (Nat × Leaf) → Tr) → Tr
  | [], acc, k => k acc
  | l :: r, acc, k => match wayIx bs sp li l sp.ways 0 with | some i => pairUp bs sp li r ((i, l) :: acc) k | none => .fail 162
def ofWay (i : Nat) : List (Nat × Leaf) → List Leaf
  | [] => []
  | p :: l => match Nat.beq p.1 i with | true => p.2 :: ofWay i l | false => ofWay i l
def outT (bs : Bds) (sp : LSpec) (l0 : Leaf) (ls : List (Nat × Leaf)) : List Way → Nat → Tr
  | [], _ => .dead
  | w :: r, i =>
    match w.kd with
    | .out => (match ofWay i ls with
      | [l] => .br (keepFs sp.K l0.fs) w.cond (.leaf (outL sp l0 w l)) (outT bs sp l0 ls r (i + 1))
      | [] => (match learn bs (keepFs sp.K l0.fs) w.cond true with | none => outT bs sp l0 ls r (i + 1) | some _ => .fail 163)
      | _ => .fail 164)
    | _ => outT bs sp l0 ls r (i + 1)
def Leaf.nf {β : Type} (l : Leaf) (k : Leaf → β) : β :=
  match l with | ⟨x, N, fr, ⟨t, n⟩, fs, d⟩ => fr.nf MV.nf fun fr => t.nf Blk.nf fun t => fs.nf fun fs => k ⟨x, N, fr, ⟨t, n⟩, fs, d⟩
theorem Leaf.nf_eq {β : Type} (l : Leaf) (k : Leaf → β) : l.nf k = k l := by
  obtain ⟨x, N, fr, ⟨t, n⟩, fs, d⟩ := l
  simp only [Leaf.nf, Tri.nf_eq (g := MV.nf) (fun a k => MV.nf_eq a k), Tri.nf_eq (g := Blk.nf) (fun a k => Blk.nf_eq a k), Facts.nf_eq]
def Tr.nfL : Tr → Tr
  | .leaf l => l.nf .leaf
  | .br fs e t f => fs.nf fun fs => e.nf fun e => .br fs e t.nfL f.nfL
  | t => t
theorem Tr.nfL_eq : ∀ t : Tr, t.nfL = t
  | .leaf l => Leaf.nf_eq l _
  | .br fs e t f => by simp only [Tr.nfL, Facts.nf_eq, E.nf_eq, Tr.nfL_eq t, Tr.nfL_eq f]
  | .dead => rfl
  | .fail _ => rfl
def renAll (rn : List (Nat × Nat × List IntKind)) : List Leaf → List Leaf → (List Leaf → Tr) → Tr
  | [], acc, k => k acc
  | l :: r, acc, k => match rn with | [] => renAll rn r (l :: acc) k | _ => (renEnd rn l).nf fun l => renAll rn r (l :: acc) k
def loopTail (bs : Bds) (sp : LSpec) (c : Code) (e : Code → Leaf → Tr) (l li : Leaf) : Tr :=
  gather (e c li) [] fun ls => renAll sp.rn ls [] fun ls => pairUp bs sp li ls [] fun ps => (outT bs sp l ps sp.ways 0).nfL
def loopRun0 (bs : Bds) (sp : LSpec) (c : Code) (e : Code → Leaf → Tr) (l : Leaf) : Tr :=
  match renStart sp.rn (forgetL sp.fg l) with
  | none => .fail 167
  | some l =>
    match startB bs sp l with
    | false => .fail 161
    | true => (headL sp l).nf fun li => loopTail bs sp c e l li
/-- Numbers are kept free. -/
def resv (k : Nat) (l : Leaf) : Leaf := { l with S := ⟨l.S.t, l.S.n + k⟩ }
def rnOk (n0 : Nat) : List (Nat × Nat × List IntKind) → Bool
  | [] => true
  | p :: r => Nat.ble n0 p.2.1 && (Nat.blt p.2.1 4000 && rnOk n0 r)
theorem rnOk_mem {n0 : Nat} : ∀ {l : List (Nat × Nat × List IntKind)}, rnOk n0 l = true → ∀ p ∈ l, n0 ≤ p.2.1 ∧ p.2.1 < 4000
  | [], _, p, hp => absurd hp (by simp)
  | q :: l, h, p, hp => by
    simp only [rnOk, Bool.and_eq_true, Nat.blt_eq] at h
    rcases List.mem_cons.1 hp with rfl | hp
    · exact ⟨Nat.le_of_ble_eq_true h.1, h.2.1⟩
    · exact rnOk_mem h.2.2 p hp
def startF (bs : Bds) (sp : LSpec) (n0 : Nat) (l : Leaf) : Bool :=
  slotsOk sp.tpl && (slotsOk sp.tplB && (testsB bs l.fs sp.pre && (rnOk n0 sp.rn && sp.tplB.all (fun p => Nat.blt p.1 l.S.n))))
def firstB (bs : Bds) (sp : LSpec) (li : Leaf) (l : Leaf) : List Way → Bool
  | [] => false
  | w :: r => match exSame .normal l.ex && (testsB bs l.fs w.tests && nextB sp li w.σ l) with | true => true | false => firstB bs sp li l r
def firstsB (bs : Bds) (sp : LSpec) (li : Leaf) : List Leaf → Bool
  | [] => true
  | l :: r => match firstB bs sp li l sp.first with | true => firstsB bs sp li r | false => false
def loopRunF (bs : Bds) (sp : LSpec) (c : Code) (e : Code → Leaf → Tr) (l0 : Leaf) : Tr :=
  (resv sp.rn.length (forgetL sp.fg { l0 with fs := fsOf sp.ffs ++ l0.fs })).nf fun l =>
    match startF bs sp l0.S.n l with
    | false => .fail 168
    | true => (headL sp l).nf fun li => gather (e c l) [] fun ls => renAll sp.rn ls [] fun ls =>
        match firstsB bs sp li ls with
        | false => .fail 169
        | true => loopTail bs sp c e l li
def loopRun (bs : Bds) (sp : LSpec) (c : Code) (e : Code → Leaf → Tr) (l : Leaf) : Tr :=
  match sp.first with
  | [] => loopRun0 bs sp c e l
  | _ => loopRunF bs sp c e l

/-! ### What is to be shown by hand -/
def selIx (ρ : Val) : List Way → Nat → Option Nat
  | [], _ => none
  | w :: r, i => match w.kd with | .out => if w.cond.T ρ = true then some i else selIx ρ r (i + 1) | _ => selIx ρ r (i + 1)
def FactsOk (ρ : Val) : List Way → Prop
  | [] => False
  | w :: r => match w.kd with | .out => if w.cond.T ρ = true then Holds w.facts ρ else FactsOk ρ r | _ => FactsOk ρ r
structure OutEq (v ρ : Val) (σ fin : Sub) : Prop where
  i : ∀ p ∈ σ.i, p.2.I v = (ρ.upd fin).i p.1
  b : ∀ p ∈ σ.b, p.2.T v = (ρ.upd fin).b p.1
  a : ∀ p ∈ σ.a, p.2.A v = (ρ.upd fin).a p.1
structure Good (bs : Bds) (sp : LSpec) (J : Val → Val → Prop) (μ : Val → Val → Nat) : Prop where
  start : ∀ ρ, bs.hold ρ → Holds sp.pre ρ → J ρ (ρ.upd sp.ini)
  head : ∀ ρ v, bs.hold ρ → Holds sp.pre ρ → SameB sp.K v ρ → J ρ v → Holds sp.hfs v ∧ bs.hold v
  next : ∀ (i : Nat) (w : Way), sp.ways[i]? = some w → w.kd = .next → ∀ ρ v, bs.hold ρ → Holds sp.pre ρ → SameB sp.K v ρ → J ρ v → Holds w.tests v → J ρ (v.upd w.σ) ∧ μ ρ (v.upd w.σ) < μ ρ v
  dead : ∀ (i : Nat) (w : Way), sp.ways[i]? = some w → w.kd = .dead → ∀ ρ v, bs.hold ρ → Holds sp.pre ρ → SameB sp.K v ρ → J ρ v → Holds w.tests v → False
  out : ∀ (i : Nat) (w : Way), sp.ways[i]? = some w → w.kd = .out → ∀ ρ v, bs.hold ρ → Holds sp.pre ρ → SameB sp.K v ρ → J ρ v → Holds w.tests v → selIx ρ sp.ways 0 = some i ∧ OutEq v ρ w.σ w.fin
  fin : ∀ ρ, bs.hold ρ → Holds sp.pre ρ → FactsOk ρ sp.ways
/-- .. where the first round may be told. -/
structure GoodC (bs : Bds) (sp : LSpec) (J : Val → Val → Prop) (μ : Val → Val → Nat) : Prop where
  start : sp.first = [] → ∀ ρ, bs.hold ρ → Holds sp.pre ρ → J ρ (ρ.upd sp.ini)
  first : ∀ w ∈ sp.first, ∀ ρ, bs.hold ρ → Holds sp.pre ρ → Holds w.tests ρ → J ρ (ρ.upd w.σ)
  ffs : sp.first ≠ [] → ∀ ρ, bs.hold ρ → Holds sp.ffs ρ
  head : ∀ ρ v, bs.hold ρ → Holds sp.pre ρ → SameB sp.K v ρ → J ρ v → Holds sp.hfs v ∧ bs.hold v
  next : ∀ (i : Nat) (w : Way), sp.ways[i]? = some w → w.kd = .next → ∀ ρ v, bs.hold ρ → Holds sp.pre ρ → SameB sp.K v ρ → J ρ v → Holds w.tests v → J ρ (v.upd w.σ) ∧ μ ρ (v.upd w.σ) < μ ρ v
  dead : ∀ (i : Nat) (w : Way), sp.ways[i]? = some w → w.kd = .dead → ∀ ρ v, bs.hold ρ → Holds sp.pre ρ → SameB sp.K v ρ → J ρ v → Holds w.tests v → False
  out : ∀ (i : Nat) (w : Way), sp.ways[i]? = some w → w.kd = .out → ∀ ρ v, bs.hold ρ → Holds sp.pre ρ → SameB sp.K v ρ → J ρ v → Holds w.tests v → selIx ρ sp.ways 0 = some i ∧ OutEq v ρ w.σ w.fin
  fin : ∀ ρ, bs.hold ρ → Holds sp.pre ρ → FactsOk ρ sp.ways
theorem Good.alt {bs : Bds} {sp : LSpec} (h : ∃ J μ, Good bs sp J μ) (hf : sp.first = []) : ∃ J μ, GoodC bs sp J μ := by
  obtain ⟨J, μ, h⟩ := h
  exact ⟨J, μ, fun _ => h.start, (fun w hw => by rw [hf] at hw; cases hw), fun h => absurd hf h, h.head, h.next, h.dead, h.out, h.fin⟩

/-! ### It is sound -/
theorem gather_spec : ∀ (T : Tr) (acc : List Leaf) (k : List Leaf → Tr), (∃ s, gather T acc k = .fail s) ∨ ∃ ls, gather T acc k = k ls ∧ (∀ x ∈ acc, x ∈ ls) ∧ ∀ ρ, T.ok ρ ∧ ∀ l, T.at ρ = some l → l ∈ ls
  | .leaf l, acc, k => .inr ⟨_, rfl, fun x hx => by simp [hx], fun ρ => ⟨trivial, fun l' h => by simp only [Tr.at, Option.some.injEq] at h; subst h; simp⟩⟩
  | .br fs e t f, acc, k => by
    rcases gather_spec t acc fun acc => gather f acc k with ⟨s, h⟩ | ⟨l1, h1, h2, h3⟩
    · exact .inl ⟨s, h⟩
    · rcases gather_spec f l1 k with ⟨s, h⟩ | ⟨l2, g1, g2, g3⟩
      · exact .inl ⟨s, h1.trans h⟩
      · refine .inr ⟨l2, h1.trans g1, fun x hx => g2 x (h2 x hx), fun ρ => ?_⟩
        by_cases hc : e.T ρ = true
        · simp only [Tr.ok, Tr.at, if_pos hc]; exact ⟨(h3 ρ).1, fun l hl => g2 l ((h3 ρ).2 l hl)⟩
        · simp only [Tr.ok, Tr.at, if_neg hc]; exact g3 ρ
  | .dead, acc, k => .inr ⟨acc, rfl, fun x hx => hx, fun ρ => ⟨trivial, fun l h => by simp [Tr.at] at h⟩⟩
  | .fail s, _, _ => .inl ⟨s, rfl⟩
theorem renAll_spec {rn : List (Nat × Nat × List IntKind)} : ∀ (ls acc : List Leaf) (k : List Leaf → Tr), ∃ ls', renAll rn ls acc k = k ls' ∧ (∀ x ∈ acc, x ∈ ls') ∧ ∀ l ∈ ls, renEnd rn l ∈ ls'
  | [], acc, k => ⟨acc, rfl, fun x hx => hx, fun l hl => absurd hl (by simp)⟩
  | l :: r, acc, k => by
    have e : renAll rn (l :: r) acc k = renAll rn r (renEnd rn l :: acc) k := by
      show (match rn with | [] => renAll rn r (l :: acc) k | _ => (renEnd rn l).nf fun l => renAll rn r (l :: acc) k) = _
      split
      · rfl
      · rw [Leaf.nf_eq]
    obtain ⟨ls', h1, h2, h3⟩ := renAll_spec r (renEnd rn l :: acc) k
    refine ⟨ls', e.trans h1, fun x hx => h2 x (by simp [hx]), fun x hx => ?_⟩
    rcases List.mem_cons.1 hx with rfl | hx
    · exact h2 _ (by simp)
    · exact h3 x hx
theorem pairUp_spec {bs : Bds} {sp : LSpec} {li : Leaf} : ∀ (ls : List Leaf) (acc : List (Nat × Leaf)) (k : List (Nat × Leaf) → Tr), (∃ s, pairUp bs sp li ls acc k = .fail s) ∨
    ∃ ps, pairUp bs sp li ls acc k = k ps ∧ (∀ x ∈ acc, x ∈ ps) ∧ ∀ l ∈ ls, ∃ i, wayIx bs sp li l sp.ways 0 = some i ∧ (i, l) ∈ ps
  | [], acc, k => .inr ⟨acc, rfl, fun x hx => hx, fun l hl => absurd hl (by simp)⟩
  | l :: r, acc, k => by
    unfold pairUp
    cases hw : wayIx bs sp li l sp.ways 0 with
    | none => exact .inl ⟨162, rfl⟩
    | some i =>
      simp only
      rcases pairUp_spec r ((i, l) :: acc) k with ⟨s, h⟩ | ⟨ps, h1, h2, h3⟩
      · exact .inl ⟨s, h⟩
      · refine .inr ⟨ps, h1, fun x hx => h2 x (by simp [hx]), fun x hx => ?_⟩
        rcases List.mem_cons.1 hx with rfl | hx
        · exact ⟨i, hw, h2 _ (by simp)⟩
        · exact h3 x hx
theorem wayIx_spec {bs : Bds} {sp : LSpec} {li l : Leaf} : ∀ (ws : List Way) (i k : Nat), wayIx bs sp li l ws i = some k → i ≤ k ∧ ∃ w, ws[k - i]? = some w ∧ wayB bs sp li w l = true
  | [], _, _, h => by simp [wayIx] at h
  | w :: r, i, k, h => by
    unfold wayIx at h
    split at h
    · rename_i hw
      cases h
      exact ⟨Nat.le_refl _, w, by simp, hw⟩
    · obtain ⟨h1, w', h2, h3⟩ := wayIx_spec r (i + 1) k h
      refine ⟨by omega, w', ?_, h3⟩
      rw [show k - i = (k - (i + 1)) + 1 from by omega]
      simpa using h2
theorem ofWay_mem {i : Nat} {l : Leaf} : ∀ {ps : List (Nat × Leaf)}, (i, l) ∈ ps → l ∈ ofWay i ps
  | [], h => absurd h (by simp)
  | p :: r, h => by
    unfold ofWay
    rcases List.mem_cons.1 h with rfl | h
    · simp
    · split
      · exact List.mem_cons.2 (.inr (ofWay_mem h))
      · exact ofWay_mem h
theorem outT_at {bs : Bds} {sp : LSpec} {l0 : Leaf} {ps : List (Nat × Leaf)} {ρ : Val} {k : Nat} {l : Leaf} (hb : bs.hold ρ) (hf : (keepFs sp.K l0.fs).hold ρ) (hl : (k, l) ∈ ps) : ∀ (ws : List Way) (i : Nat), selIx ρ ws i = some k → (outT bs sp l0 ps ws i).ok ρ → ∃ w, ws[k - i]? = some w ∧ i ≤ k ∧ (outT bs sp l0 ps ws i).at ρ = some (outL sp l0 w l)
  | [], _, h, _ => by simp [selIx] at h
  | w :: r, i, h, hok => by
    unfold selIx at h
    unfold outT at hok ⊢
    have back : selIx ρ r (i + 1) = some k → (outT bs sp l0 ps r (i + 1)).ok ρ → ∃ w', (w :: r)[k - i]? = some w' ∧ i ≤ k ∧ (outT bs sp l0 ps r (i + 1)).at ρ = some (outL sp l0 w' l) := fun h1 h2 => by
      obtain ⟨w', h3, h4, h5⟩ := outT_at hb hf hl r (i + 1) h1 h2
      refine ⟨w', ?_, by omega, h5⟩
      rw [show k - i = (k - (i + 1)) + 1 from by omega]
      simpa using h3
    cases hk : w.kd with
    | out =>
      rw [hk] at h hok
      simp only at h hok ⊢
      split at hok
      · rename_i x hx
        by_cases hc : w.cond.T ρ = true
        · rw [if_pos hc] at h
          cases h
          have hm := ofWay_mem hl
          rw [hx] at hm
          have hm := List.mem_singleton.1 hm
          subst hm
          refine ⟨w, by simp, Nat.le_refl _, ?_⟩
          simp only [Tr.at, if_pos hc]
        · rw [if_neg hc] at h
          simp only [Tr.ok, if_neg hc] at hok
          simp only [Tr.at, if_neg hc]
          exact back h hok
      · rename_i hx
        split at hok
        · rename_i hlr
          by_cases hc : w.cond.T ρ = true
          · obtain ⟨g, hg, _⟩ := learn_spec (e := w.cond) hb hc hf
            rw [hlr] at hg; cases hg
          · rw [if_neg hc] at h
            exact back h hok
        · exact hok.elim
      · exact hok.elim
    | next => simp only [hk] at h hok ⊢; exact back h hok
    | dead => simp only [hk] at h hok ⊢; exact back h hok
theorem outT_sure {bs : Bds} {sp : LSpec} {l0 : Leaf} {ps : List (Nat × Leaf)} {ρ : Val} (hb : bs.hold ρ) (hf : (keepFs sp.K l0.fs).hold ρ) : ∀ (ws : List Way) (i : Nat), FactsOk ρ ws → (outT bs sp l0 ps ws i).sure ρ
  | [], _, h => h.elim
  | w :: r, i, h => by
    unfold outT
    unfold FactsOk at h
    cases hk : w.kd with
    | out =>
      simp only [hk] at h ⊢
      split
      · refine ⟨hf, ?_⟩
        by_cases hc : w.cond.T ρ = true
        · rw [if_pos hc] at h ⊢
          exact hold_append (fsOf_hold h) hf
        · rw [if_neg hc] at h ⊢
          exact outT_sure hb hf r (i + 1) h
      · split
        · rename_i hlr
          by_cases hc : w.cond.T ρ = true
          · obtain ⟨g, hg, _⟩ := learn_spec (e := w.cond) hb hc hf
            rw [hlr] at hg; cases hg
          · rw [if_neg hc] at h
            exact outT_sure hb hf r (i + 1) h
        · trivial
      · trivial
    | next => simp only [hk] at h ⊢; exact outT_sure hb hf r (i + 1) h
    | dead => simp only [hk] at h ⊢; exact outT_sure hb hf r (i + 1) h
theorem exSame_iff {a b : Ex} : exSame a b = true ↔ a = b := by rw [exSame_eq, decide_eq_true_iff]
/-- At the start: the head's leaf, under the symbols of the start. -/
theorem head_at {bs : Bds} {sp : LSpec} {l : Leaf} (hst : startB bs sp l = true) {L0 : Nat → Prop} {Γ0 Γ : Ctx} {S0 : St} {w0 w : World} {a : Act} (hb : bs.hold Γ0.ρ) (hat : At L0 Γ0 S0 w0 Γ l a w)
    (hfs : Holds sp.hfs (Γ0.ρ.upd sp.ini)) : At L0 (Γ0.at_ (Γ0.ρ.upd sp.ini)) S0 w0 (Γ.at_ (Γ0.ρ.upd sp.ini)) (headL sp l) a w ∧ Holds sp.pre Γ0.ρ ∧ SameB sp.K (Γ0.ρ.upd sp.ini) Γ0.ρ ∧ ∀ j, ¬ ((headL sp l).S.get j).Gone → j < l.S.n := by
  simp only [startB, Bool.and_eq_true] at hst
  obtain ⟨h1, h2, h3, h4, h5, h6, h7⟩ := hst
  have hρ := hat.far.ρ
  have hsame := upd_low h4 Γ0.ρ
  have hf0 : l.fs.hold Γ0.ρ := by rw [← hρ]; exact hat.fs
  have hlive : ∀ j, ¬ ((headL sp l).S.get j).Gone → j < l.S.n := fun j hj => by
    rcases setT_get (z := Blk.gone) sp.tplB (keepBs sp.K l.S.n l.S.t) j h2 with ⟨p, hp, rfl, _⟩ | ⟨_, he⟩
    · exact (fitBs_mem h7 p hp).2.2
    · have hj' : ¬ ((setT .gone sp.tplB (keepBs sp.K l.S.n l.S.t)).get .gone j).Gone := hj
      rw [he, keepBs_get] at hj'
      split at hj'
      · exact hat.bound _ (hat.S.live j hj')
      · exact absurd rfl hj'
  refine ⟨?_, testsB_spec hb hf0 h5, hsame, hlive⟩
  refine hat.move hat.far.n rfl (fun t => ?_) (fun j => ?_) hlive ?_ fun j hj _ => mem_joinD (.inr hj)
  · rw [hρ]
    show MoveV _ _ l.S.n _ ((setT .unk sp.tpl (keepFr sp.K l.S.n l.fr)).get .unk t)
    rcases setT_get (z := MV.unk) sp.tpl (keepFr sp.K l.S.n l.fr) t h1 with ⟨p, hp, rfl, he⟩ | ⟨_, he⟩
    · obtain ⟨e1, e2⟩ := fitFr_mem h6 p hp
      rw [he, ← e1]; exact MoveV.sub h3 e2
    · rw [he, keepFr_get]
      split
      · rename_i hbl; exact MoveV.keep hsame hbl
      · exact MoveV.unk _ _ _ _
  · rw [hρ]
    show MoveB _ _ l.S.n _ ((setT .gone sp.tplB (keepBs sp.K l.S.n l.S.t)).get .gone j)
    rcases setT_get (z := Blk.gone) sp.tplB (keepBs sp.K l.S.n l.S.t) j h2 with ⟨p, hp, rfl, he⟩ | ⟨_, he⟩
    · obtain ⟨e1, e2, _⟩ := fitBs_mem h7 p hp
      rw [he, ← e1]; exact MoveB.sub h3 e2
    · rw [he, keepBs_get]
      split
      · rename_i hbl; exact MoveB.keep hsame hbl
      · exact MoveB.gone_ _ _ _ _
  · exact hold_append (fsOf_hold hfs) (keepFs_hold hf0 hsame)
theorem unks_get {l : List (Nat × MV)} {f : Fr} {t : Nat} (hs : slotsOk l = true) (h : ∀ p ∈ l, p.1 ≠ t) : (setT .unk (unks l) f).get .unk t = f.get .unk t := by
  have hs' : slotsOk (unks l) = true := by
    clear h
    induction l with
    | nil => rfl
    | cons p l ih => simp only [slotsOk, unks, List.map_cons, Bool.and_eq_true] at hs ⊢; exact ⟨hs.1, ih hs.2⟩
  rcases setT_get (z := MV.unk) (unks l) f t hs' with ⟨p, hp, h1, _⟩ | ⟨_, he⟩
  · obtain ⟨q, hq, rfl⟩ := List.mem_map.1 hp
    exact absurd h1 (h q hq)
  · exact he
theorem gones_get {l : List (Nat × Blk)} {f : Tri Blk} {t : Nat} (hs : slotsOk l = true) (h : ∀ p ∈ l, p.1 ≠ t) : (setT .gone (gones l) f).get .gone t = f.get .gone t := by
  have hs' : slotsOk (gones l) = true := by
    clear h
    induction l with
    | nil => rfl
    | cons p l ih => simp only [slotsOk, gones, List.map_cons, Bool.and_eq_true] at hs ⊢; exact ⟨hs.1, ih hs.2⟩
  rcases setT_get (z := Blk.gone) (gones l) f t hs' with ⟨p, hp, h1, _⟩ | ⟨_, he⟩
  · obtain ⟨q, hq, rfl⟩ := List.mem_map.1 hp
    exact absurd h1 (h q hq)
  · exact he
/-- Behind a round: the head's leaf once more. -/
theorem next_at {sp : LSpec} {l l' : Leaf} {σ : Sub} (h1 : slotsOk sp.tpl = true) (h2 : slotsOk sp.tplB = true) (hnx : nextB sp (headL sp l) σ l' = true) {L0 : Nat → Prop} {Γ0 Γ : Ctx} {S0 : St} {w0 w : World} {a : Act} {v : Val}
    (hlive : ∀ j, ¬ ((headL sp l).S.get j).Gone → j < l.S.n) (hn0 : S0.n ≤ l.S.n) (hat : At L0 (Γ0.at_ v) S0 w0 Γ l' a w) (hfs : (headL sp l).fs.hold (v.upd σ)) :
    At L0 (Γ0.at_ (v.upd σ)) S0 w0 (Γ.at_ (v.upd σ)) (headL sp l) a w := by
  simp only [nextB, Bool.and_eq_true] at hnx
  obtain ⟨n1, n2, n3, n4, n5, n6, n7, n8, n9⟩ := hnx
  have hρ : Γ.ρ = v := hat.far.ρ
  have hsame := upd_low n2 v
  have := hat.move (v := v.upd σ) (l' := headL sp l) hn0 (Nat.eq_of_beq_eq_true n6).symm (fun t => ?_) (fun j => ?_) hlive hfs (dIn_mem n7)
  · exact this
  · rw [hρ]
    rcases setT_get (z := MV.unk) sp.tpl (keepFr sp.K l.S.n l.fr) t h1 with ⟨p, hp, rfl, he⟩ | ⟨hne, he⟩
    · have he : (headL sp l).fr.get .unk p.1 = p.2 := he
      obtain ⟨e1, e2⟩ := fitFr_mem n3 p hp
      rw [he, ← e1]; exact MoveV.sub n1 e2
    · have he : (headL sp l).fr.get .unk t = (keepFr sp.K l.S.n l.fr).get .unk t := he
      have hle := leT_get (z := MV.unk) rfl _ _ t n8
      rw [unks_get h1 hne] at hle
      rw [he, keepFr_get] at hle ⊢
      split
      · rename_i hbl
        simp only [hbl] at hle
        rcases hle with hu | hq
        · rw [MV.unk?_eq hu]; exact MoveV.unk _ _ _ _
        · rw [← MV.eq_of hq]; exact MoveV.keep hsame hbl
      · exact MoveV.unk _ _ _ _
  · rw [hρ]
    rcases setT_get (z := Blk.gone) sp.tplB (keepBs sp.K l.S.n l.S.t) j h2 with ⟨p, hp, rfl, he⟩ | ⟨hne, he⟩
    · have he : (headL sp l).S.get p.1 = p.2 := he
      obtain ⟨e1, e2, _⟩ := fitBs_mem n4 p hp
      rw [he, ← e1]; exact MoveB.sub n1 e2
    · have he : (headL sp l).S.get j = (keepBs sp.K l.S.n l.S.t).get .gone j := he
      have hle := leT_get (z := Blk.gone) rfl _ _ j n9
      rw [gones_get h2 hne] at hle
      have he' : (headL sp l).S.t.get .gone j = (keepBs sp.K l.S.n l.S.t).get .gone j := he
      rw [he', keepBs_get] at hle
      rw [he, keepBs_get]
      split
      · rename_i hbl
        simp only [hbl] at hle
        rcases hle with hu | hq
        · rw [Blk.gone?_eq hu]; exact MoveB.gone_ _ _ _ _
        · have hq := Blk.eq_of hq
          rw [show l'.S.get j = l'.S.t.get .gone j from rfl, ← hq]; exact MoveB.keep hsame hbl
      · exact MoveB.gone_ _ _ _ _
theorem slotsOk_map {α β : Type} (g : Nat × α → Nat × β) (hg : ∀ p, (g p).1 = p.1) : ∀ {l : List (Nat × α)}, slotsOk l = true → slotsOk (l.map g) = true
  | [], _ => rfl
  | p :: l, h => by simp only [slotsOk, List.map_cons, Bool.and_eq_true, hg] at h ⊢; exact ⟨h.1, slotsOk_map g hg h.2⟩
theorem pick_mem {j : Nat} {d : E} {l : List (Nat × E)} (h : elemN j (l.map (·.1)) = true) : (j, pick j d l) ∈ l := by
  induction l with
  | nil => simp [elemN] at h
  | cons p l ih =>
    unfold pick lookup
    by_cases hp : Nat.beq p.1 j = true
    · rw [if_pos hp]
      have := Nat.eq_of_beq_eq_true hp
      subst this
      simp
    · rw [if_neg hp]
      simp only [List.map_cons, elemN, Bool.or_eq_true] at h
      rcases h with h | h
      · exact absurd (by rw [Nat.eq_of_beq_eq_true h]; exact Nat.beq_refl _) hp
      · exact List.mem_cons.2 (.inr (ih h))
theorem same_keys {M : Nat} {σ fin : Sub} {v ρ : Val} (hs : SameB ⟨M, [], [], []⟩ v ρ) (h1 : σ.from_ M = true) (h2 : fin.from_ M = true) (ho : OutEq v ρ σ fin) : SameB (keysOf M σ) (v.upd σ) (ρ.upd fin) := by
  have a1 := upd_low h1 v
  have a2 := upd_low h2 ρ
  have key : ∀ {l : List Nat} {j : Nat}, Keys.has M l j = true → Keys.has M [] j = true ∨ elemN j l = true := fun {l j} h => by
    unfold Keys.has at h
    split at h
    · left; rename_i hb; unfold Keys.has; rw [hb]
    · exact .inr h
  refine ⟨fun j hj => ?_, fun j hj => ?_, fun j hj => ?_, hs.s⟩
  · rcases key hj with hj | hj
    · rw [a1.i j hj, a2.i j hj, hs.i j hj]
    · exact ho.i _ (pick_mem (d := .var j) hj)
  · rcases key hj with hj | hj
    · rw [a1.b j hj, a2.b j hj, hs.b j hj]
    · exact ho.b _ (pick_mem (d := .bv j) hj)
  · rcases key hj with hj | hj
    · rw [a1.a j hj, a2.a j hj, hs.a j hj]
    · exact ho.a _ (pick_mem (d := .av j) hj)
/-- A value's two faces. -/
theorem MoveV.two {K : Keys} {σ fin : Sub} {v ρ : Val} {n : Nat} {m : MV} (hs : σ.ok = true) (hf : fin.ok = true) (hk : SameB K (v.upd σ) (ρ.upd fin)) (hb : m.below K n = true) : MoveV v ρ n (m.sub σ) (m.sub fin) := by
  have hl := MV.lt_of_below hb
  have hnt := MV.not_tup hl
  refine ⟨fun Γ x hr => ?_, ?_, fun L h => MV.sub_on.2 (MV.sub_on.1 h)⟩
  · rw [MV.sub_rel hf Γ ρ (.inr hnt)]
    exact MV.below_rel hk.symm hb Γ ((MV.sub_rel hs Γ v (.inr hnt)).1 hr)
  · cases m with
    | unk => rfl
    | und => rfl
    | c m => cases m <;> exact hl
    | agg l =>
      have : ∀ l : List MC, csLt n l = true → csLt n (csSub fin l) = true := fun l => by
        induction l with
        | nil => exact fun _ => rfl
        | cons m l ih => intro h; simp only [csLt, csSub, Bool.and_eq_true] at h ⊢; exact ⟨by cases m <;> exact h.1, ih h.2⟩
      exact this l hl
    | tup l => exact absurd rfl (hnt l)
    | row _ _ _ _ => rfl
theorem MoveB.two {K : Keys} {σ fin : Sub} {v ρ : Val} {n : Nat} {b : Blk} (hs : σ.ok = true) (hf : fin.ok = true) (hk : SameB K (v.upd σ) (ρ.upd fin)) (hb : b.below K n = true) : MoveB v ρ n (b.sub σ) (b.sub fin) := by
  have hl := Blk.lt_of_below hb
  have hcs : ∀ l : List MC, csLt n l = true → csLt n (csSub fin l) = true := fun l => by
    induction l with
    | nil => exact fun _ => rfl
    | cons m l ih => intro h; simp only [csLt, csSub, Bool.and_eq_true] at h ⊢; exact ⟨by cases m <;> exact h.1, ih h.2⟩
  refine ⟨fun Γ w j hr => ?_, ?_, fun L h => Blk.sub_on.2 (Blk.sub_on.1 h), fun h hg => h (by cases b <;> simp [Blk.sub, Blk.Gone] at hg ⊢)⟩
  · rw [Blk.sub_rel hf Γ ρ]
    exact Blk.below_rel hk.symm hb Γ ((Blk.sub_rel hs Γ v).1 hr)
  · cases b with
    | gone => rfl
    | cells cs t q => exact hcs cs hl
    | arr x ks lo m t w tl => exact hcs tl hl
/-- Behind the loop: under the symbols of the start again. -/
theorem out_at {sp : LSpec} {l0 l' : Leaf} {w : Way} (hob : outB sp w l' = true) {L0 : Nat → Prop} {Γ0 Γ : Ctx} {S0 : St} {w0 wd : World} {a : Act} {v : Val} (hsame : SameB sp.K v Γ0.ρ) (ho : OutEq v Γ0.ρ w.σ w.fin)
    (hat : At L0 (Γ0.at_ v) S0 w0 Γ l' a wd) (hfs : (fsOf w.facts ++ keepFs sp.K l0.fs).hold Γ0.ρ) : At L0 Γ0 S0 w0 (Γ.at_ Γ0.ρ) (outL sp l0 w l') a wd := by
  simp only [outB, Bool.and_eq_true] at hob
  obtain ⟨o1, o2, o3, o4, o5, o6, o7, o8, o9, o10⟩ := hob
  have hρ : Γ.ρ = v := hat.far.ρ
  have hk := same_keys (M := sp.M) hsame o8 o3 ho
  have hlive : ∀ j, ¬ ((outL sp l0 w l').S.get j).Gone → j < l'.S.n := fun j hj => by
    rcases setT_get (z := Blk.gone) (sp.tplB.map fun p => (p.1, p.2.sub w.fin)) (keepBs sp.K l'.S.n l'.S.t) j (slotsOk_map (fun p : Nat × Blk => (p.1, p.2.sub w.fin)) (fun _ => rfl) o5) with ⟨p, hp, rfl, _⟩ | ⟨_, he⟩
    · obtain ⟨q, hq, rfl⟩ := List.mem_map.1 hp
      exact (fitBs_mem o7 q hq).2.2
    · have hj' : ¬ ((setT .gone (sp.tplB.map fun p => (p.1, p.2.sub w.fin)) (keepBs sp.K l'.S.n l'.S.t)).get .gone j).Gone := hj
      rw [he, keepBs_get] at hj'
      split at hj'
      · exact hat.bound _ (hat.S.live j hj')
      · exact absurd rfl hj'
  have := hat.move (v := Γ0.ρ) (l' := outL sp l0 w l') hat.far.n rfl (fun t => ?_) (fun j => ?_) hlive hfs fun j hj _ => hj
  · exact this
  · rw [hρ]
    show MoveV _ _ l'.S.n _ ((setT .unk ((sp.tpl ++ w.xtra).map fun p => (p.1, p.2.sub w.fin)) (keepFr sp.K l'.S.n l'.fr)).get .unk t)
    rcases setT_get (z := MV.unk) ((sp.tpl ++ w.xtra).map fun p => (p.1, p.2.sub w.fin)) (keepFr sp.K l'.S.n l'.fr) t (slotsOk_map (fun p : Nat × MV => (p.1, p.2.sub w.fin)) (fun _ => rfl) o4) with ⟨p, hp, rfl, he⟩ | ⟨_, he⟩
    · obtain ⟨q, hq, rfl⟩ := List.mem_map.1 hp
      obtain ⟨e1, _⟩ := fitFr_mem o6 q hq
      have hb := List.all_eq_true.1 o9 q hq
      rw [he, ← e1]; exact MoveV.two o1 o2 hk hb
    · rw [he, keepFr_get]
      split
      · rename_i hbl; exact MoveV.keep hsame.symm hbl
      · exact MoveV.unk _ _ _ _
  · rw [hρ]
    show MoveB _ _ l'.S.n _ ((setT .gone (sp.tplB.map fun p => (p.1, p.2.sub w.fin)) (keepBs sp.K l'.S.n l'.S.t)).get .gone j)
    rcases setT_get (z := Blk.gone) (sp.tplB.map fun p => (p.1, p.2.sub w.fin)) (keepBs sp.K l'.S.n l'.S.t) j (slotsOk_map (fun p : Nat × Blk => (p.1, p.2.sub w.fin)) (fun _ => rfl) o5) with ⟨p, hp, rfl, he⟩ | ⟨_, he⟩
    · obtain ⟨q, hq, rfl⟩ := List.mem_map.1 hp
      obtain ⟨e1, _, _⟩ := fitBs_mem o7 q hq
      have hb := List.all_eq_true.1 o10 q hq
      rw [he, ← e1]; exact MoveB.two o1 o2 hk hb
    · rw [he, keepBs_get]
      split
      · rename_i hbl; exact MoveB.keep hsame.symm hbl
      · exact MoveB.gone_ _ _ _ _
theorem factsOk_sel {ρ : Val} : ∀ {ws : List Way} {i k : Nat} {w : Way}, FactsOk ρ ws → selIx ρ ws i = some k → ws[k - i]? = some w → i ≤ k → Holds w.facts ρ
  | [], _, _, _, h, _, _, _ => h.elim
  | w' :: r, i, k, w, h, hs, hw, hik => by
    unfold FactsOk at h
    unfold selIx at hs
    have lt_of : ∀ {ws : List Way} {i k : Nat}, selIx ρ ws i = some k → i ≤ k := fun {ws} => by
      induction ws with
      | nil => intro i k h; simp [selIx] at h
      | cons w r ih =>
        intro i k h
        unfold selIx at h
        split at h
        · split at h
          · cases h; exact Nat.le_refl _
          · have := ih h; omega
        · have := ih h; omega
    have back : FactsOk ρ r → selIx ρ r (i + 1) = some k → Holds w.facts ρ := fun h1 h2 => by
      have h3 := lt_of h2
      refine factsOk_sel h1 h2 ?_ h3
      rw [show k - i = (k - (i + 1)) + 1 from by omega] at hw
      simpa using hw
    cases hk : w'.kd with
    | out =>
      simp only [hk] at h hs
      by_cases hc : w'.cond.T ρ = true
      · rw [if_pos hc] at h hs
        cases hs
        simp at hw
        subst hw
        exact h
      · rw [if_neg hc] at h hs
        exact back h hs
    | next => simp only [hk] at h hs; exact back h hs
    | dead => simp only [hk] at h hs; exact back h hs
theorem tail_sure {bs : Bds} {sp : LSpec} {J : Val → Val → Prop} {μ : Val → Val → Nat} (hg : GoodC bs sp J μ) {c : Code} {e : Code → Leaf → Tr} {l li : Leaf} {ρ : Val} (hb : bs.hold ρ) (hf : l.fs.hold ρ) (hpre : Holds sp.pre ρ) : (loopTail bs sp c e l li).sure ρ := by
  unfold loopTail
  rcases gather_spec (e c li) [] fun ls => renAll sp.rn ls [] fun ls => pairUp bs sp li ls [] fun ps => (outT bs sp l ps sp.ways 0).nfL with ⟨s, h⟩ | ⟨ls, h, _, _⟩
  · rw [h]; trivial
  · rw [h]
    obtain ⟨ls, h, _, _⟩ := renAll_spec (rn := sp.rn) ls [] fun ls => pairUp bs sp li ls [] fun ps => (outT bs sp l ps sp.ways 0).nfL
    rw [h]
    rcases pairUp_spec (bs := bs) (sp := sp) (li := li) ls [] fun ps => (outT bs sp l ps sp.ways 0).nfL with ⟨s, h⟩ | ⟨ps, h, _, _⟩
    · rw [h]; trivial
    · rw [h, Tr.nfL_eq]
      exact outT_sure hb (fun p hp => hf p (keepFs_mem hp).1) sp.ways 0 (hg.fin ρ hb hpre)
theorem loopRun_sure {bs : Bds} {sp : LSpec} {J : Val → Val → Prop} {μ : Val → Val → Nat} (hg : GoodC bs sp J μ) {c : Code} {e : Code → Leaf → Tr} {l : Leaf} {ρ : Val} (hb : bs.hold ρ) (hf : l.fs.hold ρ) : (loopRun bs sp c e l).sure ρ := by
  unfold loopRun
  split
  · unfold loopRun0
    split
    · trivial
    · rename_i lr hrs
      have hf : lr.fs.hold ρ := by rw [renStart_fs hrs]; exact hf
      split
      · trivial
      · rename_i hst
        rw [Leaf.nf_eq]
        simp only [startB, Bool.and_eq_true] at hst
        exact tail_sure hg hb hf (testsB_spec hb hf hst.2.2.2.2.1)
  · rename_i hfi
    unfold loopRunF
    rw [Leaf.nf_eq]
    have hf : ({ l with fs := fsOf sp.ffs ++ l.fs } : Leaf).fs.hold ρ := hold_append (fsOf_hold (hg.ffs hfi ρ hb)) hf
    generalize { l with fs := fsOf sp.ffs ++ l.fs } = l at hf ⊢
    split
    · trivial
    · rename_i hst
      simp only [startF, Bool.and_eq_true] at hst
      have hf : (resv sp.rn.length (forgetL sp.fg l)).fs.hold ρ := hf
      rw [Leaf.nf_eq]
      generalize hk : (fun ls => renAll sp.rn ls [] fun ls => match firstsB bs sp (headL sp (resv sp.rn.length (forgetL sp.fg l))) ls with | false => Tr.fail 169 | true => loopTail bs sp c e (resv sp.rn.length (forgetL sp.fg l)) (headL sp (resv sp.rn.length (forgetL sp.fg l)))) = k
      rcases gather_spec (e c (resv sp.rn.length (forgetL sp.fg l))) [] k with ⟨s, h⟩ | ⟨ls, h, _, _⟩
      · rw [h]; trivial
      · rw [h, ← hk]
        obtain ⟨ls, h, _, _⟩ := renAll_spec (rn := sp.rn) ls [] fun ls => match firstsB bs sp (headL sp (resv sp.rn.length (forgetL sp.fg l))) ls with | false => Tr.fail 169 | true => loopTail bs sp c e (resv sp.rn.length (forgetL sp.fg l)) (headL sp (resv sp.rn.length (forgetL sp.fg l)))
        simp only
        rw [h]
        split
        · trivial
        · exact tail_sure hg hb hf (testsB_spec hb hf hst.2.2.1)
/-- Some rounds from the head on. -/
theorem tail_rd {P : Program} {bs : Bds} {lk : Nat → Code → Prop} {sp : LSpec} {J : Val → Val → Prop} {μ : Val → Val → Nat} (hg : GoodC bs sp J μ) {c' c : Code} (hmk : Mk lk c' c) {e : Code → Leaf → Tr} (he : EvOk P bs lk e)
    {L0 : Nat → Prop} {Γ0 : Ctx} {S0 : St} {w0 : World} {Q : Exit → Act → World → Prop} {l : Leaf} (hb : bs.hold Γ0.ρ) (hf0 : l.fs.hold Γ0.ρ) (hpre : Holds sp.pre Γ0.ρ) (h1s : slotsOk sp.tpl = true) (h2s : slotsOk sp.tplB = true)
    (hlive : ∀ j, ¬ ((headL sp l).S.get j).Gone → j < l.S.n) (hn0 : S0.n ≤ l.S.n) (hJr : ∀ p ∈ sp.rn, S0.n ≤ p.2.1 ∧ p.2.1 < 4000)
    (hok : (loopTail bs sp c' e l (headL sp l)).ok Γ0.ρ) (hend : Ends L0 Γ0 S0 w0 (loopTail bs sp c' e l (headL sp l)) Q) :
    ∀ (n : Nat) (v : Val) (Γ : Ctx) (a : Act) (w : World), μ Γ0.ρ v < n → SameB sp.K v Γ0.ρ → J Γ0.ρ v → At L0 (Γ0.at_ v) S0 w0 Γ (headL sp l) a w → Code.rounds P c Q n a w := by
  unfold loopTail at hok hend
  rcases gather_spec (e c' (headL sp l)) [] fun ls => renAll sp.rn ls [] fun ls => pairUp bs sp (headL sp l) ls [] fun ps => (outT bs sp l ps sp.ways 0).nfL with ⟨s, h⟩ | ⟨ls0, h, _, hls⟩
  · rw [h] at hok; exact hok.elim
  rw [h] at hok hend
  obtain ⟨ls, h, _, hrn⟩ := renAll_spec (rn := sp.rn) ls0 [] fun ls => pairUp bs sp (headL sp l) ls [] fun ps => (outT bs sp l ps sp.ways 0).nfL
  rw [h] at hok hend
  rcases pairUp_spec (bs := bs) (sp := sp) (li := headL sp l) ls [] fun ps => (outT bs sp l ps sp.ways 0).nfL with ⟨s, h⟩ | ⟨ps, h, _, hps⟩
  · rw [h] at hok; exact hok.elim
  rw [h, Tr.nfL_eq] at hok hend
  intro n
  induction n with
  | zero => intro v Γ a w hm; omega
  | succ n ih =>
    intro v Γ a w hm hsv hJ hat
    rw [rounds_succ]
    have hbv := (hg.head _ _ hb hpre hsv hJ).2
    refine he c' c hmk L0 (Γ0.at_ v) S0 w0 _ (headL sp l) Γ a w hbv rfl hat (hls v).1 fun le Γe a' w' hle hate => ?_
    obtain ⟨Γ', hat'⟩ := renEnd_spec hJr hate
    have hee : le.ex = (renEnd sp.rn le).ex := renEnd_ex.symm
    have hl' : renEnd sp.rn le ∈ ls := hrn le ((hls v).2 le hle)
    generalize renEnd sp.rn le = l' at hat' hee hl'
    rw [hee]
    obtain ⟨i, hi, hip⟩ := hps l' hl'
    obtain ⟨_, wy, hwy, hwb⟩ := wayIx_spec sp.ways 0 i hi
    rw [Nat.sub_zero] at hwy
    unfold wayB at hwb
    rw [Bool.and_eq_true, Bool.and_eq_true] at hwb
    obtain ⟨hex', htests, hkd⟩ := hwb
    have hex' := exSame_iff.1 hex'
    have hbv' : bs.hold v := hbv
    have hfv : l'.fs.hold v := by have := hat'.fs; rw [hat'.far.ρ] at this; exact this
    have htests := testsB_spec hbv' hfv htests
    cases hk : wy.kd with
    | next =>
      rw [hk] at hkd
      simp only [Bool.and_eq_true] at hkd
      have hn := exSame_iff.1 hkd.1
      obtain ⟨hJ', hμ⟩ := hg.next i wy hwy hk _ _ hb hpre hsv hJ htests
      have hnx := hkd.2
      have hnx2 := hnx
      simp only [nextB, Bool.and_eq_true] at hnx2
      have hs' : SameB sp.K (v.upd wy.σ) Γ0.ρ := (upd_low hnx2.2.1 v).trans hsv
      rw [← hex', hn]
      refine ih (v.upd wy.σ) _ a' w' (by omega) hs' hJ' (next_at h1s h2s hnx hlive hn0 hat' ?_)
      exact hold_append (fsOf_hold (hg.head _ _ hb hpre hs' hJ').1) (keepFs_hold hf0 hs')
    | dead => exact (hg.dead i wy hwy hk _ _ hb hpre hsv hJ htests).elim
    | out =>
      rw [hk] at hkd
      simp only [Bool.and_eq_true] at hkd
      obtain ⟨hsel, heq⟩ := hg.out i wy hwy hk _ _ hb hpre hsv hJ htests
      obtain ⟨wy', hw1, _, hw2⟩ := outT_at hb (fun p hp => hf0 p (keepFs_mem hp).1) hip sp.ways 0 hsel hok
      rw [Nat.sub_zero, hwy, Option.some.injEq] at hw1
      subst hw1
      have hfacts := factsOk_sel (hg.fin _ hb hpre) hsel (by rw [Nat.sub_zero]; exact hwy) (Nat.zero_le _)
      have hout := out_at (l0 := l) hkd.2 hsv heq hat' (hold_append (fsOf_hold hfacts) fun p hp => hf0 p (keepFs_mem hp).1)
      have := hend _ _ a' w' hw2 hout
      have hne : l'.ex ≠ .normal := fun h => by
        have h1 := hkd.1
        rw [hex', h] at h1
        simp [exSame] at h1
      rw [Ex.out_normal hne]
      exact this
theorem firstB_spec {bs : Bds} {sp : LSpec} {li l : Leaf} : ∀ {ws : List Way}, firstB bs sp li l ws = true → ∃ w ∈ ws, l.ex = .normal ∧ testsB bs l.fs w.tests = true ∧ nextB sp li w.σ l = true
  | [], h => by simp [firstB] at h
  | w :: r, h => by
    unfold firstB at h
    split at h
    · rename_i hw
      simp only [Bool.and_eq_true] at hw
      exact ⟨w, by simp, (exSame_iff.1 hw.1).symm, hw.2.1, hw.2.2⟩
    · obtain ⟨w', h1, h2⟩ := firstB_spec h
      exact ⟨w', by simp [h1], h2⟩
theorem firstsB_spec {bs : Bds} {sp : LSpec} {li : Leaf} : ∀ {ls : List Leaf}, firstsB bs sp li ls = true → ∀ l ∈ ls, firstB bs sp li l sp.first = true
  | [], _, l, hl => absurd hl (by simp)
  | q :: r, h, l, hl => by
    unfold firstsB at h
    split at h
    · rename_i hq
      rcases List.mem_cons.1 hl with rfl | hl
      · exact hq
      · exact firstsB_spec h l hl
    · cases h
theorem At.resv {L0 : Nat → Prop} {Γ0 Γ : Ctx} {S0 : St} {w0 w : World} {l : Leaf} {a : Act} (h : At L0 Γ0 S0 w0 Γ l a w) (k : Nat) : At L0 Γ0 S0 w0 Γ (resv k l) a w := by
  have hsc : ∀ j, Sc L0 S0.n l.S.n j → Sc L0 S0.n (l.S.n + k) j := Sc.mono (by omega)
  have hn := h.far.n
  exact ⟨h.lt, ⟨h.fr.defers, h.fr.size, h.fr.lt, h.fr.rel, fun t => MV.on_mono hsc (h.fr.on t)⟩, ⟨h.S.rel, fun j => Blk.on_mono hsc (h.S.on j), fun j hj => hsc j (h.S.live j hj), h.S.inj⟩, h.fs,
    { ρ := h.far.ρ, n := by show S0.n ≤ l.S.n + k; omega, id := h.far.id, sz := h.far.sz, os := h.far.os, tape := h.far.tape, output := h.far.output, size := h.far.size, keep := h.far.keep, fresh := h.far.fresh, gone := h.far.gone }⟩
theorem head_live {sp : LSpec} {l : Leaf} (h2 : slotsOk sp.tplB = true) (ht : ∀ p ∈ sp.tplB, p.1 < l.S.n) (hl : ∀ j, ¬ (l.S.get j).Gone → j < l.S.n) : ∀ j, ¬ ((headL sp l).S.get j).Gone → j < l.S.n := fun j hj => by
  rcases setT_get (z := Blk.gone) sp.tplB (keepBs sp.K l.S.n l.S.t) j h2 with ⟨p, hp, rfl, _⟩ | ⟨_, he⟩
  · exact ht p hp
  · have hj' : ¬ ((setT .gone sp.tplB (keepBs sp.K l.S.n l.S.t)).get .gone j).Gone := hj
    rw [he, keepBs_get] at hj'
    split at hj'
    · exact hl j hj'
    · exact absurd rfl hj'
theorem le_sum_map {α : Type} (f : α → Nat) : ∀ {l : List α} {x : α}, x ∈ l → f x ≤ (l.map f).sum
  | [], _, h => absurd h (by simp)
  | y :: l, x, h => by
    simp only [List.map_cons, List.sum_cons]
    rcases List.mem_cons.1 h with rfl | h
    · omega
    · have := le_sum_map f h; omega
theorem loopRun_rd {P : Program} {bs : Bds} {lk : Nat → Code → Prop} {sp : LSpec} {J : Val → Val → Prop} {μ : Val → Val → Nat} (hg : GoodC bs sp J μ) {c' c : Code} (hmk : Mk lk c' c) {e : Code → Leaf → Tr} (he : EvOk P bs lk e) :
    LoopRd P bs c (loopRun bs sp c' e) := by
  intro L0 Γ0 S0 w0 Q l0 Γ a w hb hex hat hok hend
  unfold loopRun at hok hend
  split at hok
  · rename_i hfi
    simp only [hfi] at hend
    unfold loopRun0 at hok hend
    cases hrs : renStart sp.rn (forgetL sp.fg l0) with
    | none => rw [hrs] at hok; exact hok.elim
    | some l =>
    simp only [hrs] at hok hend
    obtain ⟨⟨Γr, hat⟩, hJr⟩ := renStart_spec hrs (hat.forget sp.fg)
    cases hst : startB bs sp l with
    | false => rw [hst] at hok; exact hok.elim
    | true =>
      simp only [hst, Leaf.nf_eq] at hok hend
      have hf0 : l.fs.hold Γ0.ρ := by rw [← hat.far.ρ]; exact hat.fs
      have hst2 := hst
      simp only [startB, Bool.and_eq_true] at hst2
      have hpre : Holds sp.pre Γ0.ρ := testsB_spec hb hf0 hst2.2.2.2.2.1
      have hJ0 := hg.start hfi Γ0.ρ hb hpre
      have hsame0 : SameB sp.K (Γ0.ρ.upd sp.ini) Γ0.ρ := upd_low hst2.2.2.2.1 Γ0.ρ
      obtain ⟨hat0, _, _, hlive⟩ := head_at hst hb hat (hg.head _ _ hb hpre hsame0 hJ0).1
      have hn0 : S0.n ≤ l.S.n := hat.far.n
      exact ⟨_, tail_rd hg hmk he hb hf0 hpre hst2.1 hst2.2.1 hlive hn0 hJr hok hend (μ Γ0.ρ (Γ0.ρ.upd sp.ini) + 1) _ _ a w (by omega) hsame0 hJ0 hat0⟩
  · rename_i hfi
    have hend : Ends L0 Γ0 S0 w0 (loopRunF bs sp c' e l0) Q := by
      revert hend
      cases hfe : sp.first with
      | nil => exact absurd hfe hfi
      | cons x r => exact fun h => h
    unfold loopRunF at hok hend
    rw [Leaf.nf_eq] at hok hend
    have hn00 := hat.far.n
    have hfa : ({ l0 with fs := fsOf sp.ffs ++ l0.fs } : Leaf).fs.hold Γ.ρ := hold_append (fsOf_hold (by rw [hat.far.ρ]; exact hg.ffs hfi Γ0.ρ hb)) hat.fs
    have hat := ((At.facts hat hfa).forget sp.fg).resv sp.rn.length
    have hexr : (resv sp.rn.length (forgetL sp.fg { l0 with fs := fsOf sp.ffs ++ l0.fs })).ex = .normal := hex
    generalize resv sp.rn.length (forgetL sp.fg { l0 with fs := fsOf sp.ffs ++ l0.fs }) = l at hat hok hend hexr
    cases hst : startF bs sp l0.S.n l with
    | false => rw [hst] at hok; exact hok.elim
    | true =>
      simp only [hst, Leaf.nf_eq] at hok hend
      simp only [startF, Bool.and_eq_true] at hst
      obtain ⟨h1s, h2s, hpt, hrk, htb⟩ := hst
      have hf0 : l.fs.hold Γ0.ρ := by rw [← hat.far.ρ]; exact hat.fs
      have hpre : Holds sp.pre Γ0.ρ := testsB_spec hb hf0 hpt
      have hJr : ∀ p ∈ sp.rn, S0.n ≤ p.2.1 ∧ p.2.1 < 4000 := fun p hp => by have := rnOk_mem hrk p hp; omega
      have hlive := head_live h2s (fun p hp => by have := List.all_eq_true.1 htb p hp; rwa [Nat.blt_eq] at this) (fun j hj => hat.bound _ (hat.S.live j hj))
      have hn0 : S0.n ≤ l.S.n := hat.far.n
      rcases gather_spec (e c' l) [] fun ls => renAll sp.rn ls [] fun ls => match firstsB bs sp (headL sp l) ls with | false => Tr.fail 169 | true => loopTail bs sp c' e l (headL sp l) with ⟨s, h⟩ | ⟨ls0, h, _, hls⟩
      · rw [h] at hok; exact hok.elim
      rw [h] at hok hend
      obtain ⟨ls, h, _, hrn⟩ := renAll_spec (rn := sp.rn) ls0 [] fun ls => match firstsB bs sp (headL sp l) ls with | false => Tr.fail 169 | true => loopTail bs sp c' e l (headL sp l)
      rw [h] at hok hend
      cases hfs : firstsB bs sp (headL sp l) ls with
      | false => rw [hfs] at hok; exact hok.elim
      | true =>
        simp only [hfs] at hok hend
        have key := tail_rd hg hmk he hb hf0 hpre h1s h2s hlive hn0 hJr hok hend
        refine ⟨(sp.first.map fun w => μ Γ0.ρ (Γ0.ρ.upd w.σ)).sum + 1 + 1, ?_⟩
        rw [rounds_succ]
        refine he c' c hmk L0 Γ0 S0 w0 _ l Γ a w hb hexr hat (hls Γ0.ρ).1 fun le Γe a' w' hle hate => ?_
        obtain ⟨Γ', hat'⟩ := renEnd_spec hJr hate
        have hee : le.ex = (renEnd sp.rn le).ex := renEnd_ex.symm
        have hl' : renEnd sp.rn le ∈ ls := hrn le ((hls Γ0.ρ).2 le hle)
        generalize renEnd sp.rn le = l' at hat' hee hl'
        obtain ⟨wy, hwy, hnorm, htests, hnx⟩ := firstB_spec (firstsB_spec hfs l' hl')
        have hfv : l'.fs.hold Γ0.ρ := by have := hat'.fs; rw [hat'.far.ρ] at this; exact this
        have htests := testsB_spec hb hfv htests
        have hJ' := hg.first wy hwy Γ0.ρ hb hpre htests
        have hnx2 := hnx
        simp only [nextB, Bool.and_eq_true] at hnx2
        have hs' : SameB sp.K (Γ0.ρ.upd wy.σ) Γ0.ρ := upd_low hnx2.2.1 Γ0.ρ
        rw [hee, hnorm]
        have hm := le_sum_map (fun w : Way => μ Γ0.ρ (Γ0.ρ.upd w.σ)) hwy
        refine key _ (Γ0.ρ.upd wy.σ) _ a' w' (Nat.lt_succ_of_le hm) hs' hJ' (next_at (Γ0 := Γ0) (v := Γ0.ρ) h1s h2s hnx hlive hn0 hat' ?_)
        exact hold_append (fsOf_hold (hg.head _ _ hb hpre hs' hJ').1) (keepFs_hold hf0 hs')
end Sx
end Go.Proofs.Ytigblagodlfedaa
