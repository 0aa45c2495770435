/- The symbolic run once more, in a form that the kernel reckons quickly; it comes to the same. -/
import Derived.Test.YtigblagodlfedaaSxu
namespace Go.Proofs.Ytigblagodlfedaa
namespace Sx
open Go.RowKit

/-! ### Trees, written out -/
def Tri.putK {α β : Type} (z : α) : Nat → Tri α → Nat → α → (Tri α → β) → β
  | 0, f, _, _, k => k f
  | d + 1, f, t, m, k =>
    match t with
    | 0 => (match f with | .e => k (.n .e m .e) | .n l _ r => k (.n l m r))
    | t + 1 =>
      match t % 2 with
      | 0 => (match f with | .e => putK z d .e (t / 2) m fun l => k (.n l z .e) | .n l v r => putK z d l (t / 2) m fun l => k (.n l v r))
      | _ => (match f with | .e => putK z d .e (t / 2) m fun r => k (.n .e z r) | .n l v r => putK z d r (t / 2) m fun r => k (.n l v r))
theorem Tri.putK_eq {α β : Type} (z : α) : ∀ (d : Nat) (f : Tri α) (t : Nat) (m : α) (k : Tri α → β), Tri.putK z d f t m k = k (Tri.put z d f t m)
  | 0, _, _, _, _ => rfl
  | d + 1, f, t, m, k => by
    unfold Tri.putK Tri.put
    split
    · cases f <;> rfl
    · rename_i t
      rcases Nat.mod_two_eq_zero_or_one t with h | h <;> simp only [h] <;> cases f <;> simp only [Tri.putK_eq z d] <;> rfl
def Tri.setK {α β : Type} (z : α) (f : Tri α) (t : Nat) (m : α) (k : Tri α → β) : β := Tri.putK z 12 f t m k
theorem Tri.setK_eq {α β : Type} (z : α) (f : Tri α) (t : Nat) (m : α) (k : Tri α → β) : Tri.setK z f t m k = k (f.set z t m) := Tri.putK_eq z 12 f t m k
def Tri.nf {α β : Type} (g : α → (α → β) → β) : Tri α → (Tri α → β) → β
  | .e, k => k .e
  | .n l v r, k => Tri.nf g l fun l => g v fun v => Tri.nf g r fun r => k (.n l v r)
theorem Tri.nf_eq {α β : Type} {g : α → (α → β) → β} (hg : ∀ a k, g a k = k a) : ∀ (t : Tri α) (k : Tri α → β), t.nf g k = k t
  | .e, _ => rfl
  | .n l v r, k => by simp only [Tri.nf, Tri.nf_eq hg l, Tri.nf_eq hg r, hg]
def setAllK {β : Type} : List (Nat × Blk) → Tri Blk → (Tri Blk → β) → β
  | [], t, k => k t
  | p :: l, t, k => Tri.setK .gone t p.1 p.2 fun t => setAllK l t k
theorem setAllK_eq {β : Type} : ∀ (l : List (Nat × Blk)) (S : St) (k : Tri Blk → β), setAllK l S.t k = k (S.setAll l).t
  | [], _, _ => rfl
  | p :: l, S, k => by
    simp only [setAllK, Tri.setK_eq]
    exact setAllK_eq l (S.set p.1 p.2) k
def pushAllK {β : Type} : List Blk → Tri Blk → Nat → (Tri Blk → Nat → β) → β
  | [], t, n, k => k t n
  | b :: l, t, n, k => Tri.setK .gone t n b fun t => pushAllK l t (n + 1) k
theorem pushAllK_eq {β : Type} : ∀ (l : List Blk) (S : St) (k : Tri Blk → Nat → β), pushAllK l S.t S.n k = k (S.pushAll l).t (S.pushAll l).n
  | [], _, _ => rfl
  | b :: l, S, k => by
    simp only [pushAllK, Tri.setK_eq]
    exact pushAllK_eq l (S.push b) k
def putK {β : Type} (fr : Fr) (dst : Option Nat) (m : MV) (k : Fr → β) : β := match dst with | some d => Tri.setK .unk fr d m k | none => k fr
theorem putK_eq {β : Type} (fr : Fr) (dst : Option Nat) (m : MV) (k : Fr → β) : putK fr dst m k = k (putM fr dst m) := by
  cases dst
  · rfl
  · exact Tri.setK_eq _ _ _ _ _

/-! ### Leaves -/
def Leaf.withEx (l : Leaf) (x : Ex) : Leaf := match l with | ⟨_, N, fr, S, fs, d⟩ => ⟨x, N, fr, S, fs, d⟩
theorem Leaf.withEx_eq (l : Leaf) (x : Ex) : l.withEx x = { l with ex := x } := rfl
def Leaf.withFs (l : Leaf) (g : Facts) : Leaf := match l with | ⟨x, N, fr, S, _, d⟩ => ⟨x, N, fr, S, g, d⟩
theorem Leaf.withFs_eq (l : Leaf) (g : Facts) : l.withFs g = { l with fs := g } := rfl
def joinK (fs : Facts) (e : E) (a b : Leaf) : Tr :=
  match a, b with
  | ⟨ex, N, fr, ⟨t, n⟩, _, d⟩, ⟨_, _, fr', ⟨t', n'⟩, _, d'⟩ =>
    (joinFr e fr fr').nf MV.nf fun f => (joinBs e t t').nf Blk.nf fun q => .leaf ⟨ex, N, f, ⟨q, if n ≤ n' then n' else n⟩, fs, joinD d d'⟩
theorem joinK_eq (fs : Facts) (e : E) (a b : Leaf) : joinK fs e a b = .leaf { ex := a.ex, N := a.N, fr := joinFr e a.fr b.fr, S := joinSt e a.S b.S, fs := fs, d := joinD a.d b.d } := by
  obtain ⟨ex, N, fr, ⟨t, n⟩, f, d⟩ := a
  obtain ⟨ex', N', fr', ⟨t', n'⟩, f', d'⟩ := b
  simp only [joinK, Tri.nf_eq (g := MV.nf) (fun a k => MV.nf_eq a k), Tri.nf_eq (g := Blk.nf) (fun a k => Blk.nf_eq a k)]
  rfl
def exSame : Ex → Ex → Bool
  | .normal, .normal => true | .ret, .ret => true | .exit a, .exit b => Nat.beq a b | _, _ => false
theorem exSame_eq (a b : Ex) : exSame a b = decide (a = b) := by
  cases a <;> cases b <;> simp [exSame]
  rw [Bool.eq_iff_iff]; simp [Nat.beq_eq]
def brF (keep : Bool) (fs : Facts) (e : E) (t f : Tr) : Tr :=
  match keep, t, f with
  | true, t, f => .br fs e t f
  | false, .leaf a, .leaf b => if exSame a.ex b.ex && Nat.beq a.N b.N && !(lossFr e a.fr b.fr || lossBs e a.S.t b.S.t) then joinK fs e a b else .br fs e (.leaf a) (.leaf b)
  | false, t, f => .br fs e t f
theorem brF_eq (keep : Bool) (fs : Facts) (e : E) (t f : Tr) : brF keep fs e t f = brM keep fs e t f := by
  unfold brF brM
  split
  · rfl
  · rw [exSame_eq, joinK_eq]
  · rename_i h1
    cases t <;> cases f <;> first | rfl | exact absurd rfl (h1 _ _ rfl)
def forkF (bs : Bds) (keep : Bool) (fs : Facts) (e : E) (f : Facts → Tr) : Tr := brF keep fs e (way bs fs e true f) (way bs fs e false f)
theorem forkF_eq (bs : Bds) (keep : Bool) (fs : Facts) (e : E) (f : Facts → Tr) : forkF bs keep fs e f = fork bs keep fs e f := brF_eq ..
def CT.bindF (keep : Bool) (f : Res → Facts → Tr) : CT → Tr
  | .leaf r g => f r g
  | .br fs e a b => brF keep fs e (a.bindF keep f) (b.bindF keep f)
  | .dead => .dead
  | .fail s => .fail s
theorem CT.bindF_eq (keep : Bool) (f : Res → Facts → Tr) : ∀ t : CT, t.bindF keep f = t.bind keep f
  | .leaf _ _ => rfl
  | .br fs e a b => by simp only [CT.bindF, CT.bind, CT.bindF_eq keep f a, CT.bindF_eq keep f b, brF_eq]
  | .dead => rfl
  | .fail _ => rfl

/-! ### Regions -/
def roomy (N n : Nat) (o : Oper) (k : Nat) : Bool := (match o.dst with | some d => Nat.blt d N | none => true) && Nat.ble (n + k) 4000
def runF (P : Program) (bs : Bds) (call : Callee) (keep : Bool) (all : List Oper) (fin : Leaf → List Log → Tr) : Nat → List Oper → Ex → Nat → Fr → Tri Blk → Nat → Facts → List Nat → List Log → Tr
  | 0, _, _, _, _, _, _, _, _, _ => .fail 121
  | c + 1, ops, x, N, fr0, t0, n, fs, d, lg =>
    match ops with
    | [] => fin ⟨x, N, fr0, ⟨t0, n⟩, fs, d⟩ lg
    | o :: rest =>
      match wantM bs fs all fr0 o with
      | some (.inl true) =>
        match stepM P bs call fs fr0 ⟨t0, n⟩ o.op with
        | .ct T => T.bindF keep fun r g =>
          match r with
          | ⟨mv, new, upd⟩ =>
            match roomy N n o new.length with
            | false => .fail 113
            | true => putK fr0 o.dst mv fun fr => setAllK upd t0 fun t => pushAllK new t n fun t m => runF P bs call keep all fin c rest x N fr t m g (upd.map (·.1) ++ d) (⟨true, n, ⟨mv, new, upd⟩, fr0, ⟨t0, n⟩, fs⟩ :: lg)
        | .need e => forkF bs keep fs e fun g => runF P bs call keep all fin c (o :: rest) x N fr0 t0 n g d lg
      | some (.inl false) =>
        match roomy N n o 0 with
        | false => .fail 114
        | true => putK fr0 o.dst .und fun fr => runF P bs call keep all fin c rest x N fr t0 n fs d (⟨false, n, { mv := .und }, .e, {}, fs⟩ :: lg)
      | some (.inr e) => forkF bs keep fs e fun g => runF P bs call keep all fin c (o :: rest) x N fr0 t0 n g d lg
      | none => .fail 112
theorem runF_eq {P : Program} {bs : Bds} {call : Callee} {keep : Bool} {all : List Oper} {fin : Leaf → List Log → Tr} :
    ∀ (c : Nat) (ops : List Oper) (x : Ex) (N : Nat) (fr : Fr) (t : Tri Blk) (n : Nat) (fs : Facts) (d : List Nat) (lg : List Log),
      runF P bs call keep all fin c ops x N fr t n fs d lg = runOps P bs call keep all fin c ops ⟨x, N, fr, ⟨t, n⟩, fs, d⟩ lg
  | 0, _, _, _, _, _, _, _, _, _ => rfl
  | c + 1, ops, x, N, fr, t, n, fs, d, lg => by
    unfold runF runOps
    cases ops with
    | nil => rfl
    | cons o rest =>
      simp only
      rcases wantM bs fs all fr o with _ | (b | e)
      · rfl
      · cases b with
        | true =>
          simp only
          rcases stepM P bs call fs fr ⟨t, n⟩ o.op with T | e
          · simp only
            rw [CT.bindF_eq]
            congr 1
            funext r g
            obtain ⟨mv, new, upd⟩ := r
            have hfit : roomy N n o new.length = fits ⟨x, N, fr, ⟨t, n⟩, fs, d⟩ o ⟨mv, new, upd⟩ := rfl
            simp only [hfit]
            cases fits ⟨x, N, fr, ⟨t, n⟩, fs, d⟩ o ⟨mv, new, upd⟩ with
            | false => rfl
            | true =>
              simp only [putK_eq]
              rw [setAllK_eq upd ⟨t, n⟩]
              have hp : ∀ (q : Tri Blk) (k : Tri Blk → Nat → Tr), q = ((⟨t, n⟩ : St).setAll upd).t → pushAllK new q n k = k (((⟨t, n⟩ : St).setAll upd).pushAll new).t (((⟨t, n⟩ : St).setAll upd).pushAll new).n := fun q k hq => by
                have := pushAllK_eq new ((⟨t, n⟩ : St).setAll upd) k
                rw [St.n_setAll] at this
                rw [hq]; exact this
              rw [hp _ _ rfl, runF_eq c]
              rfl
          · simp only
            rw [forkF_eq]
            congr 1
            funext g
            rw [runF_eq c]
        | false =>
          simp only
          have hfit : roomy N n o 0 = fits ⟨x, N, fr, ⟨t, n⟩, fs, d⟩ o { mv := .und } := rfl
          simp only [hfit]
          cases fits ⟨x, N, fr, ⟨t, n⟩, fs, d⟩ o { mv := .und } with
          | false => rfl
          | true =>
            simp only [putK_eq]
            rw [runF_eq c]
      · simp only
        rw [forkF_eq]
        congr 1
        funext g
        rw [runF_eq c]
def runLF (P : Program) (bs : Bds) (call : Callee) (keep : Bool) (all : List Oper) (fin : Leaf → List Log → Tr) (c : Nat) (ops : List Oper) (l : Leaf) : Tr :=
  match l with | ⟨x, N, fr, ⟨t, n⟩, fs, d⟩ => runF P bs call keep all fin c ops x N fr t n fs d []
theorem runLF_eq {P : Program} {bs : Bds} {call : Callee} {keep : Bool} {all : List Oper} {fin : Leaf → List Log → Tr} (c : Nat) (ops : List Oper) (l : Leaf) : runLF P bs call keep all fin c ops l = runOps P bs call keep all fin c ops l [] := by
  obtain ⟨x, N, fr, ⟨t, n⟩, fs, d⟩ := l
  exact runF_eq c ops x N fr t n fs d []
def regionWF (P : Program) (bs : Bds) (call : Callee) (keep draw : Bool) (ops : List Oper) (next : Leaf → Tr) (l : Leaf) : Tr :=
  runLF P bs call keep ops (fun l' lg =>
    match draw with
    | false => .leaf l'
    | true => if backB 0 ops && (apartB' ops && checkAll P bs call ops (beforeM ops) l lg.reverse l'.fs 0 ops lg.reverse) then .leaf l' else next (l.withFs l'.fs)) 500 ops l
theorem regionWF_eq {P : Program} {bs : Bds} {call : Callee} {keep draw : Bool} {ops : List Oper} {next : Leaf → Tr} (l : Leaf) : regionWF P bs call keep draw ops next l = regionW P bs call keep draw ops next l := runLF_eq ..
def regionNF (P : Program) (bs : Bds) (call : Callee) (keep draw : Bool) (ops : List Oper) : Nat → Leaf → Tr
  | 0 => regionWF P bs call keep draw ops fun _ => .fail 122
  | n + 1 => regionWF P bs call keep draw ops (regionNF P bs call keep draw ops n)
theorem regionNF_eq {P : Program} {bs : Bds} {call : Callee} {keep draw : Bool} {ops : List Oper} : ∀ n, regionNF P bs call keep draw ops n = regionN P bs call keep draw ops n
  | 0 => by funext l; exact regionWF_eq l
  | n + 1 => by funext l; simp only [regionNF, regionN]; rw [regionWF_eq, regionNF_eq n]

/-! ### Code -/
def Fr.startK {β : Type} : Nat → List MV → Fr → (Fr → β) → β
  | _, [], f, k => k f
  | i, m :: l, f, k => Tri.setK .unk f i m fun f => Fr.startK (i + 1) l f k
theorem Fr.startK_eq {β : Type} : ∀ (l : List MV) (i : Nat) (f : Fr) (k : Fr → β), Fr.startK i l f k = k (Fr.start i l f)
  | [], _, _, _ => rfl
  | m :: l, i, f, k => by simp only [Fr.startK, Tri.setK_eq, Fr.startK_eq l, Fr.start]
def withStart (fn : Func) (args : List MV) (S : St) (fs : Facts) (k : Leaf → Tr) : Tr :=
  match Nat.ble (args.length + fn.ntmps) 4000 with
  | true => csNfV args fun args => Fr.startK 0 args .e fun f => k ⟨.normal, args.length + (fn.ntmps - args.length), f, S, fs, []⟩
  | false => k ⟨.normal, 0, .e, S, fs, []⟩
where csNfV {β : Type} : List MV → (List MV → β) → β
  | [], k => k []
  | m :: l, k => m.nf fun m => csNfV l fun l => k (m :: l)
theorem csNfV_eq {β : Type} : ∀ (l : List MV) (k : List MV → β), withStart.csNfV l k = k l
  | [], _ => rfl
  | m :: l, k => by simp only [withStart.csNfV, MV.nf_eq, csNfV_eq l]
theorem withStart_eq (fn : Func) (args : List MV) (S : St) (fs : Facts) (k : Leaf → Tr) : withStart fn args S fs k = k (startL fn args S fs) := by
  unfold withStart startL
  cases Nat.ble (args.length + fn.ntmps) 4000 with
  | true => simp only [csNfV_eq, Fr.startK_eq]
  | false => rfl
def callF (P : Program) (E : Env) (ev : Code → Leaf → Tr) : Callee := fun f args S fs =>
  match lookup f E.fns with
  | some fn =>
    match fn.body with
    | some c => toCT P E fn S (withStart fn args S fs fun l => ev c l)
    | none => .fail 134
  | none => E.sum f args S fs
theorem callF_eq {P : Program} {E : Env} {ev : Code → Leaf → Tr} : callF P E ev = callIn P E ev := by
  funext f args S fs
  unfold callF callIn
  cases lookup f E.fns with
  | none => rfl
  | some fn =>
    simp only
    cases fn.body with
    | none => rfl
    | some c => simp only [withStart_eq]
def evF (P : Program) (E : Env) : Nat → Code → Leaf → Tr
  | 0, _, _ => .fail 141
  | n + 1, c, l =>
    match c with
    | .skip => .leaf l
    | .region _ ops draw => regionNF P E.bs (callF P E (evF P E n)) E.keep draw ops.toList 2 l
    | .seq x y => (evF P E n x l).bind fun l => match l.ex with | .normal => evF P E n y l | _ => .leaf l
    | .cond x t f =>
      match condM E.bs l.fs (evO l.fr x) with
      | some (.inl true) => evF P E n t l
      | some (.inl false) => evF P E n f l
      | some (.inr e) => brF E.keep l.fs e (way E.bs l.fs e true fun g => evF P E n t (l.withFs g)) (way E.bs l.fs e false fun g => evF P E n f (l.withFs g))
      | none => .fail 142
    | .block id c => (evF P E n c l).bind fun l => if exSame l.ex (.exit id) then .leaf (l.withEx .normal) else .leaf l
    | .loop c => (evF P E n c l).bind fun l => match l.ex with | .normal => evF P E n (.loop c) l | _ => .leaf l
    | .exit id => .leaf (l.withEx (.exit id))
    | .ret => .leaf (l.withEx .ret)
    | .goto k => E.loops k (evF P E n) l
    | _ => .fail 143
theorem evF_eq {P : Program} {E : Env} : ∀ n, evF P E n = ev P E n
  | 0 => by funext c l; rfl
  | n + 1 => by
    have ih := evF_eq (P := P) (E := E) n
    funext c l
    unfold evF ev
    cases c <;> simp only [ih, callF_eq, regionNF_eq, brF_eq, Leaf.withFs_eq, Leaf.withEx_eq, exSame_eq, decide_eq_true_eq, region] <;> rfl
theorem fast {P : Program} {E : Env} (n : Nat) : callF P E (evF P E n) = callIn P E (ev P E n) := by rw [callF_eq, evF_eq]
end Sx
end Go.Proofs.Ytigblagodlfedaa
