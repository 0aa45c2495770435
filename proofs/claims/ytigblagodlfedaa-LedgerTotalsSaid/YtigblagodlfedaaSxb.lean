/- The symbolic run of code: values, blocks, operations, regions, code. Definitions alone. -/
import Derived.Test.YtigblagodlfedaaSxa
namespace Go.Proofs.Ytigblagodlfedaa
namespace Sx

inductive Cap where
  | ex (e : E) | opn (m : Nat)
  deriving Inhabited
/-- One cell's value: blocks go by an index of their own. -/
inductive MC where
  | int (k : IntKind) (e : E) | bool (e : E) | str (s : ByteArray) | sv (i : Nat)
  | ptr (b : Nat) (o : E) | nilp | slice (b : Nat) (o : E) (len : E) (cap : Cap) | nils
  | fn (f : Nat) (caps : List (Nat × Nat)) | nilf
  /-- what is left of a slice whose last element was cut away: where it begins hangs on the room -/
  | emp (b o m d : Nat)
  deriving Inhabited
inductive MV where
  | unk | und | c (m : MC) | agg (l : List MC) | tup (l : List (Bool × List MC)) | row (x o : E) (n m : Nat)
  deriving Inhabited
inductive Blk where
  | gone | cells (cs : List MC) (t : Nat) (opn : Nat) | arr (x : E) (ks : List IntKind) (lo n : E) (t : Nat) (wr : Nat) (tl : List MC)
  deriving Inhabited
def Cap.beq : Cap → Cap → Bool
  | .ex a, .ex b => E.beq a b | .opn a, .opn b => Nat.beq a b | _, _ => false
theorem Cap.eq_of {a b : Cap} (h : Cap.beq a b = true) : a = b := by
  cases a <;> cases b <;> simp only [Cap.beq, Bool.false_eq_true] at h <;> first | (rw [E.eq_of h]) | (rw [Nat.eq_of_beq_eq_true h])
def MC.beq : MC → MC → Bool
  | .int k a, .int k' b => kbeq k k' && E.beq a b
  | .bool a, .bool b => E.beq a b
  | .str a, .str b => decide (a = b)
  | .sv i, .sv j => Nat.beq i j
  | .ptr b o, .ptr b' o' => Nat.beq b b' && E.beq o o'
  | .nilp, .nilp => true
  | .slice b o l c, .slice b' o' l' c' => Nat.beq b b' && (E.beq o o' && (E.beq l l' && Cap.beq c c'))
  | .nils, .nils => true
  | .fn f c, .fn f' c' => Nat.beq f f' && decide (c = c')
  | .nilf, .nilf => true
  | .emp b o m d, .emp b' o' m' d' => Nat.beq b b' && (Nat.beq o o' && (Nat.beq m m' && Nat.beq d d'))
  | _, _ => false
theorem MC.eq_of {a b : MC} (h : MC.beq a b = true) : a = b := by
  cases a <;> cases b <;> simp only [MC.beq, Bool.false_eq_true, Bool.and_eq_true, decide_eq_true_eq] at h <;>
    first
    | rfl
    | (rw [kbeq_eq h.1, E.eq_of h.2])
    | (rw [Nat.eq_of_beq_eq_true h.1, E.eq_of h.2])
    | (rw [Nat.eq_of_beq_eq_true h.1, E.eq_of h.2.1, E.eq_of h.2.2.1, Cap.eq_of h.2.2.2])
    | (rw [Nat.eq_of_beq_eq_true h.1, h.2])
    | (rw [Nat.eq_of_beq_eq_true h.1, Nat.eq_of_beq_eq_true h.2.1, Nat.eq_of_beq_eq_true h.2.2.1, Nat.eq_of_beq_eq_true h.2.2.2])
    | (rw [E.eq_of h])
    | (rw [Nat.eq_of_beq_eq_true h])
    | (rw [h])
def csBeq : List MC → List MC → Bool
  | [], [] => true
  | a :: l, b :: r => MC.beq a b && csBeq l r
  | _, _ => false
theorem csBeq_eq : ∀ {a b : List MC}, csBeq a b = true → a = b
  | [], [], _ => rfl
  | a :: l, b :: r, h => by
    simp only [csBeq, Bool.and_eq_true] at h
    rw [MC.eq_of h.1, csBeq_eq h.2]
  | [], _ :: _, h => by simp [csBeq] at h
  | _ :: _, [], h => by simp [csBeq] at h
def MV.beq : MV → MV → Bool
  | .unk, .unk => true | .und, .und => true | .c a, .c b => MC.beq a b | .agg a, .agg b => csBeq a b | .row x o n m, .row y p n' m' => Nat.beq n n' && (Nat.beq m m' && (E.beq o p && E.beq x y)) | _, _ => false
theorem MV.eq_of {a b : MV} (h : MV.beq a b = true) : a = b := by
  cases a <;> cases b <;> simp only [MV.beq, Bool.false_eq_true, Bool.and_eq_true] at h <;> first | rfl | (rw [MC.eq_of h]) | (rw [csBeq_eq h]) | (rw [Nat.eq_of_beq_eq_true h.1, Nat.eq_of_beq_eq_true h.2.1, E.eq_of h.2.2.1, E.eq_of h.2.2.2])
def Blk.beq : Blk → Blk → Bool
  | .gone, .gone => true
  | .cells a t q, .cells b t' q' => Nat.beq t t' && (Nat.beq q q' && csBeq a b)
  | .arr x ks lo n t w tl, .arr y ks' lo' n' t' w' tl' => Nat.beq t t' && (E.beq n n' && (E.beq lo lo' && (decide (ks = ks') && (Nat.beq w w' && (csBeq tl tl' && E.beq x y)))))
  | _, _ => false
theorem Blk.eq_of {a b : Blk} (h : Blk.beq a b = true) : a = b := by
  cases a <;> cases b <;> simp only [Blk.beq, Bool.false_eq_true, Bool.and_eq_true, decide_eq_true_eq, beq_iff_eq] at h <;>
    first
    | rfl
    | (rw [Nat.eq_of_beq_eq_true h.1, Nat.eq_of_beq_eq_true h.2.1, csBeq_eq h.2.2])
    | (rw [Nat.eq_of_beq_eq_true h.1, E.eq_of h.2.1, E.eq_of h.2.2.1, h.2.2.2.1, Nat.eq_of_beq_eq_true h.2.2.2.2.1, csBeq_eq h.2.2.2.2.2.1, E.eq_of h.2.2.2.2.2.2])
/-- Things by their numbers, in a tree. -/
inductive Tri (α : Type) where
  | e | n (l : Tri α) (v : α) (r : Tri α)
  deriving Inhabited
namespace Tri
variable {α : Type}
def get (z : α) : Tri α → Nat → α
  | .e, _ => z
  | .n l v r, t => match t with | 0 => v | t + 1 => match t % 2 with | 0 => l.get z (t / 2) | _ => r.get z (t / 2)
def left : Tri α → Tri α | .e => .e | .n l _ _ => l
def right : Tri α → Tri α | .e => .e | .n _ _ r => r
def top (z : α) : Tri α → α | .e => z | .n _ v _ => v
def put (z : α) : Nat → Tri α → Nat → α → Tri α
  | 0, f, _, _ => f
  | d + 1, f, t, m => match t with | 0 => .n f.left m f.right | t + 1 => match t % 2 with | 0 => .n (f.left.put z d (t / 2) m) (f.top z) f.right | _ => .n f.left (f.top z) (f.right.put z d (t / 2) m)
def set (z : α) (f : Tri α) (t : Nat) (m : α) : Tri α := f.put z 12 t m
end Tri
/-- A frame: its slots. -/
abbrev Fr := Tri MV
/-- The frame at a call: the arguments; all else is not set yet. -/
def Fr.start : Nat → List MV → Fr → Fr
  | _, [], f => f
  | i, m :: l, f => Fr.start (i + 1) l (f.set .unk i m)
/-- The blocks that are known, and how many there are. -/
structure St where
  t : Tri Blk := .e
  n : Nat := 0
  deriving Inhabited
def St.get (S : St) (b : Nat) : Blk := S.t.get .gone b
def St.set (S : St) (b : Nat) (x : Blk) : St := ⟨S.t.set .gone b x, S.n⟩
def St.push (S : St) (x : Blk) : St := ⟨S.t.set .gone S.n x, S.n + 1⟩

/-- What an operation comes to: its value, the blocks that it makes, the blocks that it turns. -/
structure Res where
  mv : MV
  new : List Blk := []
  upd : List (Nat × Blk) := []
  deriving Inhabited
inductive R where
  | ok (r : Res) | need (e : E) | fail (s : Nat)
  deriving Inhabited
def R.v (m : MV) : R := .ok { mv := m }
def R.bind (r : R) (f : Res → R) : R := match r with | .ok r => f r | .need e => .need e | .fail s => .fail s
def R.ofOpt (o : Option MV) (s : Nat) : R := match o with | some m => .v m | none => .fail s

def St.setAll (S : St) : List (Nat × Blk) → St
  | [] => S
  | p :: l => (S.set p.1 p.2).setAll l
def St.pushAll (S : St) : List Blk → St
  | [] => S
  | x :: l => (S.push x).pushAll l
def St.app (S : St) (r : Res) : St := (S.setAll r.upd).pushAll r.new

/-! ### Values in, values out -/
def ofC : Value → Option MC
  | .int k n => some (.int k (.lit n))
  | .bool b => some (.bool (.bl b))
  | .string s => some (.str s)
  | .pointer none => some .nilp
  | .slice none 0 0 => some .nils
  | .nilFunc => some .nilf
  | _ => none
def ofCs : List Value → Option (List MC)
  | [] => some []
  | v :: r => match ofC v, ofCs r with | some m, some l => some (m :: l) | _, _ => none
def ofV (v : Value) : MV :=
  match v with
  | .agg cs => match ofCs cs.toList with | some l => .agg l | none => .unk
  | v => match ofC v with | some m => .c m | none => .unk
def evO (fr : Fr) : Operand → MV
  | .tmp t => fr.get .unk t
  | .const v => ofV v
  | .func f => .c (.fn f [])
  | .global _ => .unk
def MV.cells : MV → Option (List MC)
  | .c m => some [m]
  | .agg l => some l
  | _ => none

/-! ### Types -/
def aggB (P : Program) (t : Nat) : Option Bool :=
  match P.underlying t with
  | some (.struct _) => some true
  | some (.array _ _) => some true
  | some _ => some false
  | none => none
def szB (P : Program) (t : Nat) : Option Nat := (P.info? t).map (·.size)
def bytesB (P : Program) (t : Nat) : Nat := match P.info? t with | some i => i.bytes | none => 0
def zeroM (P : Program) (t : Nat) : Option (List MC) :=
  match P.info? t with
  | some i => match i.zero with | some z => ofCs z.cells.toList | none => none
  | none => none
/-- The zeros of bytes that a row begins with. -/
def zrow : List Value → Nat → Nat × List Value
  | [], n => (n, [])
  | v :: l, n => match v with | .int .u8 (.ofNat 0) => (match Nat.ble n 100000 with | true => zrow l (n + 1) | false => (n, v :: l)) | _ => (n, v :: l)
/-- A great zero: a row of bytes, and what stands behind it. -/
def bigM (P : Program) (t : Nat) : Option (Nat × List MC) :=
  match P.info? t with
  | some i => match Nat.ble 1000 i.size, i.zero with
    | true, some z => (match zrow z.cells.toList 0 with | (n, r) => match ofCs r with | some tl => some (n, tl) | none => none)
    | _, _ => none
  | none => none
def partM (P : Program) (t : Nat) (cs : List MC) (off : Nat) : Option MV :=
  match aggB P t, szB P t with
  | some true, some n => if off + n ≤ cs.length then some (.agg ((cs.drop off).take n)) else none
  | some false, _ => match cs[off]? with | some m => some (.c m) | none => none
  | _, _ => none

/-! ### Memory -/
def litN : E → Option Nat
  | .lit n => if 0 ≤ n then some n.toNat else none
  | _ => none
def geZero (bs : Bds) (fs : Facts) (e : E) : Bool := match (bnd bs fs e).lo with | some l => decide (0 ≤ l) | none => false
/-- Does the number leave this remainder, whatever the symbols? -/
def modOf (e : E) (s : Nat) : Option Nat :=
  match e with
  | .lit n => if 0 ≤ n then some (n.toNat % s) else none
  | .bin .mul _ (.lit n) => if 0 ≤ n ∧ n.toNat % s = 0 then some 0 else none
  | .bin .add (.bin .mul _ (.lit n)) (.lit m) => if 0 ≤ n ∧ n.toNat % s = 0 ∧ 0 ≤ m then some (m.toNat % s) else none
  | _ => if s = 1 then some 0 else none
def isT : E → Bool | .bl true => true | _ => false
/-- An offset as so many times a size, and the rest. -/
def scaled (k : Int) (e : E) : Option (E × Int) :=
  match e with
  | .bin .add (.bin .mul i (.lit k')) (.lit r) => if ibeq k k' then some (i, r) else none
  | .bin .mul i (.lit k') => if ibeq k k' then some (i, 0) else none
  | _ => none
def inRowK (bs : Bds) (fs : Facts) (o : E) (s : Nat) (n : E) : Bool :=
  match n with
  | .bin .mul len (.lit k) => match scaled k o with | some (i, r) => decide (0 < k) && (decide (0 ≤ r) && (decide (r % k + s ≤ k) && (geZero bs fs i && isT (mkLt bs fs (mkAdd i (.lit (r / k))) len)))) | none => false
  | _ => false
def inRow (bs : Bds) (fs : Facts) (o : E) (s : Nat) (n : E) : Bool := inRowK bs fs o s n || (geZero bs fs o && (isT (mkLe bs fs (mkAdd o (.lit s)) n) || (Nat.beq s 1 && isT (mkLt bs fs o n))))
def rowCells (x : E) (ks : List IntKind) (o : E) (r : Nat) : Nat → Nat → List MC
  | 0, _ => []
  | s + 1, j => .int (ks.getD ((r + j) % ks.length) .u8) (mkRd x (mkAdd o (.lit j))) :: rowCells x ks o r s (j + 1)
/-- A part of a row as a value: where it is great, as a row. -/
def rowV (x : E) (ks : List IntKind) (o : E) (r s : Nat) : MV :=
  match Nat.ble 1000 s, ks with
  | true, [.u8] => .row x o s 0
  | _, _ => .agg (rowCells x ks o r s 0)
def loadM (P : Program) (bs : Bds) (fs : Facts) (t : Nat) (p : MV) (S : St) : R :=
  match p with
  | .c (.ptr b o) =>
    match S.get b with
    | .cells cs _ _ => match litN o with | some n => R.ofOpt (partM P t cs n) 1 | none => .fail 2
    | .arr x ks lo n _ _ tl =>
      match litN (mkSub (mkSub o lo) n), tl with
      | some j, _ :: _ => R.ofOpt (partM P t tl j) 8
      | _, _ =>
      match aggB P t, szB P t, modOf (mkSub o lo) ks.length with
      | some a, some s, some r =>
        if inRow bs fs (mkSub o lo) s n && decide (0 < ks.length) then
          (if a then .v (rowV x ks (mkSub o lo) r s) else if s = 1 then .v (.c (.int (ks.getD (r % ks.length) .u8) (mkRd x (mkSub o lo)))) else .fail 3)
        else .fail 4
      | _, _, _ => .fail 5
    | _ => .fail 6
  | _ => .fail 7
def splice (cs : List MC) (n : Nat) (l : List MC) : List MC := cs.take n ++ l ++ cs.drop (n + l.length)
def updRow (x : E) (ks : List IntKind) (o : E) (r : Nat) : List MC → Nat → Option E
  | [], _ => some x
  | .int k e :: l, j => if kbeq k (ks.getD ((r + j) % ks.length) .u8) then updRow (.upd x (mkAdd o (.lit j)) e) ks o r l (j + 1) else none
  | _ :: _, _ => none
def storeM (P : Program) (bs : Bds) (fs : Facts) (t : Nat) (p v : MV) (S : St) : R :=
  match p, v.cells with
  | .c (.ptr b o), some l =>
    if szB P t = some l.length then
      match S.get b with
      | .cells cs tt q =>
        match litN o with
        | some n => if n + l.length ≤ cs.length then .ok { mv := .und, upd := [(b, .cells (splice cs n l) tt q)] } else .fail 11
        | none => .fail 12
      | .arr x ks lo n tt (wr + 1) tl =>
        match litN (mkSub (mkSub o lo) n), tl with
        | some j, _ :: _ => if j + l.length ≤ tl.length then .ok { mv := .und, upd := [(b, .arr x ks lo n tt (wr + 1) (splice tl j l))] } else .fail 19
        | _, _ =>
        match modOf (mkSub o lo) ks.length with
        | some r =>
          if inRow bs fs (mkSub o lo) l.length n && decide (0 < ks.length) then
            match updRow x ks (mkSub o lo) r l 0 with
            | some y => .ok { mv := .und, upd := [(b, .arr y ks lo n tt (wr + 1) tl)] }
            | none => .fail 13
          else .fail 14
        | none => .fail 15
      | _ => .fail 16
    else .fail 17
  | _, _ => .fail 18

/-! ### Addresses -/
def fieldAddrM (P : Program) (bs : Bds) (fs : Facts) (s : Nat) (x : MV) (f : Nat) : R :=
  match P.underlying s, x with
  | some (.struct fields), .c (.ptr b o) =>
    match fields[f]? with
    | some fd => match szB P fd.type, geZero bs fs o with | some (_ + 1), true => .v (.c (.ptr b (mkAdd o (.lit fd.offset)))) | _, _ => .fail 21
    | none => .fail 22
  | _, _ => .fail 23
inductive Ix where
  | at_ (e : E) | need (e : E) | bad
def pickIx (bs : Bds) (fs : Facts) (e : E) : Nat → Nat → Ix
  | 0, j => .at_ (.lit j)
  | r + 1, j => match mkEq bs fs e (.lit j) with | .bl true => .at_ (.lit j) | .bl false => pickIx bs fs e r (j + 1) | q => .need q
/-- An index, held against a length; 'split': only a literal serves. -/
def ixM (bs : Bds) (fs : Facts) (split : Bool) (e len : E) : Ix :=
  match mkLt bs fs e len with
  | .bl false => .bad
  | .bl true =>
    if geZero bs fs e then
      match e with
      | .lit n => .at_ (.lit n)
      | e => if split then match len with | .lit m => (if 0 < m ∧ m ≤ 16 then pickIx bs fs e (m.toNat - 1) 0 else .bad) | _ => .bad else .at_ e
    else match mkLt bs fs e (.lit 0) with | .bl _ => .bad | q => .need q
  | q => .need q
def isCells (S : St) (b : Nat) : Bool := match S.get b with | .cells _ _ _ => true | _ => false
def indexAddrM (P : Program) (bs : Bds) (fs : Facts) (t : Nat) (x i : MV) (S : St) : R :=
  match P.underlying t, x, i with
  | some (.array len el), .c (.ptr b o), .c (.int _ e) =>
    match szB P el, ixM bs fs (isCells S b) e (.lit len), geZero bs fs o with
    | some s, .at_ e, true => .v (.c (.ptr b (mkAdd o (mkMul e (.lit s)))))
    | some _, .need q, _ => .need q
    | _, _, _ => .fail 31
  | some (.slice el), .c (.slice b o len _), .c (.int _ e) =>
    match szB P el, ixM bs fs (isCells S b) e len, geZero bs fs o with
    | some s, .at_ e, true => .v (.c (.ptr b (mkAdd o (mkMul e (.lit s)))))
    | some _, .need q, _ => .need q
    | _, _, _ => .fail 32
  | _, _, _ => .fail 33
def fieldM (P : Program) (t : Nat) (x : MV) (f : Nat) : R :=
  match P.underlying t, x with
  | some (.struct fields), .agg cs =>
    match fields[f]? with
    | some fd => R.ofOpt (partM P fd.type cs fd.offset) 41
    | none => .fail 42
  | _, _ => .fail 43

def indexM (P : Program) (t : Nat) (x i : MV) : R :=
  match P.underlying t, x, i with
  | some (.array len el), .agg cs, .c (.int _ (.lit n)) =>
    match szB P el with
    | some s => if 0 ≤ n ∧ n < len then R.ofOpt (partM P el cs (n.toNat * s)) 44 else .fail 45
    | none => .fail 46
  | _, _, _ => .fail 47

/-- A part of a row of bytes, at an index. -/
def indexX (P : Program) (bs : Bds) (fs : Facts) (t : Nat) (x i : MV) : R :=
  match P.underlying t, x, i with
  | some (.array len el), .row y (.lit (.ofNat o)) n 0, .c (.int _ e) =>
    match szB P el, aggB P el, ixM bs fs false e (.lit len) with
    | some (s + 1), some true, .at_ e => (match Nat.beq n (len * (s + 1)) with | true => .v (.agg (rowCells y [.u8] (mkAdd (mkMul e (.lit (s + 1 : Nat))) (.lit o)) 0 (s + 1) 0)) | false => .fail 48)
    | some _, _, .need q => .need q
    | _, _, _ => .fail 49
  | _, _, _ => indexM P t x i

/-! ### Building -/
def fillM (place : Nat → Option (Nat × Nat)) (cells : List MC) : List (Nat × List MC) → Option (List MC)
  | [] => some cells
  | (i, v) :: rest =>
    match place i with
    | none => none
    | some (off, size) => if v.length ≠ size || off + v.length > cells.length then none else fillM place (splice cells off v) rest
def partsM (ev : Operand → MV) : List (Nat × Operand) → Option (List (Nat × List MC))
  | [] => some []
  | (i, x) :: r => match (ev x).cells, partsM ev r with | some l, some q => some ((i, l) :: q) | _, _ => none
def placesB (P : Program) : List Field → Option (List (Nat × Nat))
  | [] => some []
  | f :: r => match szB P f.type, placesB P r with | some n, some l => some ((f.offset, n) :: l) | _, _ => none
def buildM (P : Program) (t : Nat) (parts : Option (List (Nat × List MC))) : R :=
  match parts, zeroM P t, P.underlying t with
  | some ps, some z, some (.struct fields) =>
    match placesB P fields.toList with
    | some pl => R.ofOpt ((fillM (fun i => pl[i]?) z ps).map .agg) 51
    | none => .fail 52
  | some ps, some z, some (.array _ el) =>
    match szB P el with
    | some s => R.ofOpt ((fillM (fun i => some (i * s, s)) z ps).map .agg) 53
    | none => .fail 54
  | _, _, _ => .fail 55
def reps (z : List MC) : Nat → List MC
  | 0 => []
  | n + 1 => z ++ reps z n
def buildSliceM (P : Program) (t len : Nat) (parts : Option (List (Nat × List MC))) (S : St) : R :=
  match parts, P.underlying t with
  | some ps, some (.slice el) =>
    match zeroM P el, szB P el with
    | some z, some s =>
      if z.length = s ∧ 0 < s ∧ 0 < len ∧ len * s ≤ 1000 then
        match fillM (fun i => some (i * s, s)) (reps z len) ps with
        | some cs => .ok { mv := .c (.slice S.n (.lit 0) (.lit len) (.ex (.lit len))), new := [.cells cs el 0] }
        | none => .fail 61
      else .fail 62
    | _, _ => .fail 63
  | _, _ => .fail 64
def newVarM (t : Nat) (cs : Option (List MC)) (S : St) : R :=
  match cs with
  | some l => .ok { mv := .c (.ptr S.n (.lit 0)), new := [.cells l t 0] }
  | none => .fail 65

def nilsB : List MC → Bool
  | [] => true
  | .nils :: l => nilsB l
  | _ => false
/-- A struct without parts told: where it is great, a row. -/
def buildX (P : Program) (t : Nat) (parts : Option (List (Nat × List MC))) : R :=
  match parts, bigM P t with
  | some [], some (n, tl) =>
    match nilsB tl, P.underlying t with
    | true, some (.struct fields) => (match placesB P fields.toList with | some _ => .v (.row (.bl false) (.lit 0) n tl.length) | none => .fail 56)
    | _, _ => buildM P t parts
  | _, _ => buildM P t parts
/-- A new variable that holds a value. -/
def boxX (t : Nat) (v : MV) (S : St) : R :=
  match v with
  | .row x (.lit (.ofNat 0)) n m => .ok { mv := .c (.ptr S.n (.lit 0)), new := [.arr x [.u8] (.lit 0) (.lit n) t 1 (List.replicate m .nils)] }
  | v => newVarM t v.cells S
def allocM (P : Program) (t : Nat) (S : St) : R :=
  match bigM P t with
  | some (n, tl) => .ok { mv := .c (.ptr S.n (.lit 0)), new := [.arr (.bl false) [.u8] (.lit 0) (.lit n) t 1 tl] }
  | none => newVarM t (zeroM P t) S

/-! ### Operators -/
/-- Equality of the fields of two structs, of the elements of two arrays, by what equality of their parts comes to. -/
def eqFields (P : Program) (rec : Nat → List MC → List MC → Option E) (xs ys : List MC) : List Field → Option E
  | [] => some (.bl true)
  | f :: r =>
    if f.name = "_" then none else
    match szB P f.type with
    | some s =>
      if f.offset + s ≤ xs.length ∧ f.offset + s ≤ ys.length then
        match rec f.type ((xs.drop f.offset).take s) ((ys.drop f.offset).take s), eqFields P rec xs ys r with
        | some a, some b => some (mkAnd a b)
        | _, _ => none
      else none
    | none => none
def eqElems (rec : List MC → List MC → Option E) (s : Nat) (xs ys : List MC) : Nat → Nat → Option E
  | 0, _ => some (.bl true)
  | n + 1, i =>
    if i * s + s ≤ xs.length ∧ i * s + s ≤ ys.length then
      match rec ((xs.drop (i * s)).take s) ((ys.drop (i * s)).take s), eqElems rec s xs ys n (i + 1) with
      | some a, some b => some (mkAnd a b)
      | _, _ => none
    else none
/-- Equality of two values of one type, cell by cell. -/
def flatEq (P : Program) (bs : Bds) (fs : Facts) : Nat → Nat → List MC → List MC → Option E
  | 0, _, _, _ => none
  | d + 1, t, xs, ys =>
    match P.underlying t with
    | some (.int _) => match xs, ys with | [.int k a], [.int k' b] => if kbeq k k' then some (mkEq bs fs a b) else none | _, _ => none
    | some .bool => match xs, ys with | [.bool a], [.bool b] => some (mkIteT a b (mkNot b)) | _, _ => none
    | some .string => match xs, ys with | [.str a], [.str b] => some (.bl (a.toList == b.toList)) | [.sv i], [.str b] => some (settle fs (.sq i b)) | _, _ => none
    | some (.struct fields) => if P.stoodInHeld t then none else eqFields P (flatEq P bs fs d) xs ys fields.toList
    | some (.array len el) => match szB P el with | some s => eqElems (flatEq P bs fs d el) s xs ys len 0 | none => none
    | _ => none
/-- Types that are bytes throughout: how many. -/
def bytesF (rec : Nat → Option Nat) (P : Program) : Nat → List Field → Option Nat
  | off, [] => some off
  | off, f :: r =>
    if f.name = "_" then none else
    match szB P f.type, rec f.type with
    | some s, some n => if f.offset = off ∧ s = n then bytesF rec P (off + n) r else none
    | _, _ => none
def bytesT (P : Program) : Nat → Nat → Option Nat
  | 0, _ => none
  | d + 1, t =>
    match P.underlying t with
    | some (.int .u8) => some 1
    | some (.struct fields) => if P.stoodInHeld t then none else bytesF (bytesT P d) P 0 fields.toList
    | some (.array len el) => match szB P el, bytesT P d el with | some s, some n => if s = n then some (len * n) else none | _, _ => none
    | _ => none
/-- Is a place one of those that were written later? -/
def seenE (bs : Bds) (fs : Facts) (q : E) : List E → Option Bool
  | [] => some false
  | s :: r => match mkEq bs fs q s with | .bl true => some true | .bl false => seenE bs fs q r | _ => none
def inSpan (bs : Bds) (fs : Facts) (q : E) (o n : Nat) : Option Bool :=
  match mkLt bs fs q (.lit o), mkLt bs fs q (.lit (o + n : Nat)) with
  | .bl true, _ => some false
  | .bl false, .bl false => some false
  | .bl false, .bl true => some true
  | _, _ => none
/-- Are two rows the same from one place on, so many places far? One is the other with places written anew ('seen': those written later), or their first places are unlike. -/
def rowEqZ (bs : Bds) (fs : Facts) (y : E) (o n : Nat) (x : E) (seen : List E) : Option E :=
  match mkEq bs fs (mkRd x (.lit o)) (mkRd y (.lit o)), n, seen with | .bl false, _ + 1, [] => some (.bl false) | _, _, _ => none
def rowEq (bs : Bds) (fs : Facts) (y : E) (o n : Nat) : E → List E → Option E
  | .upd x q v, seen =>
    match E.beq (.upd x q v) y with
    | true => some (.bl true)
    | false =>
      match geZero bs fs q, seenE bs fs q seen, inSpan bs fs q o n with
      | true, some true, _ => rowEq bs fs y o n x seen
      | true, some false, some false => rowEq bs fs y o n x (q :: seen)
      | true, some false, some true => (rowEq bs fs y o n x (q :: seen)).map fun r => mkAnd r (mkEq bs fs v (mkRd y q))
      | _, _, _ => none
  | x, seen =>
    match E.beq x y with
    | true => some (.bl true)
    | false => rowEqZ bs fs y o n x seen
def eqM (P : Program) (bs : Bds) (fs : Facts) (t : Nat) (x y : MV) : Option E :=
  match x, y with
  | .c (.int k a), .c (.int k' b) => if kbeq k k' then some (mkEq bs fs a b) else none
  | .c (.str a), .c (.str b) => some (.bl (a.toList == b.toList))
  | .c (.sv i), .c (.str b) => some (settle fs (.sq i b))
  | .c (.str a), .c (.sv i) => some (settle fs (.sq i a))
  | .c (.bool a), .c (.bool b) => match P.underlying t with | some .bool => some (mkIteT a b (mkNot b)) | _ => none
  | .c .nilp, .c .nilp => match P.underlying t with | some (.pointer _) => some (.bl true) | _ => none
  | .c (.ptr _ _), .c .nilp => match P.underlying t with | some (.pointer _) => some (.bl false) | _ => none
  | .c .nilp, .c (.ptr _ _) => match P.underlying t with | some (.pointer _) => some (.bl false) | _ => none
  | .agg xs, .agg ys => match P.eqGuardType P.depth t, aggB P t with | false, some true => flatEq P bs fs 20 t xs ys | _, _ => none
  | .row x o n 0, .row y p n' 0 =>
    match P.eqGuardType P.depth t, aggB P t, bytesT P 20 t with
    | false, some true, some k => (match E.beq o p && (Nat.beq n n' && Nat.beq n k), o with | true, .lit (.ofNat j) => rowEq bs fs y j n x [] | _, _ => none)
    | _, _, _ => none
  | _, _ => none
def pow2 (n : Nat) : Int := (2 : Int) ^ n
/-- Masks of ones: how many. -/
def maskN (m : Int) : Option Nat := match m with | 1 => some 1 | 3 => some 2 | 7 => some 3 | 15 => some 4 | 31 => some 5 | 63 => some 6 | 255 => some 8 | 4095 => some 12 | 65535 => some 16 | 4294967295 => some 32 | _ => none
def mkAndM (bs : Bds) (fs : Facts) (k : IntKind) (a b : E) : E :=
  match k, b with
  | .i64, .lit m => (match maskN m with | some n => mkMod bs fs a (.lit (2 ^ n)) | none => mkBits .and k a b)
  | _, _ => mkBits .and k a b
/-- A number below 2^32 beside so many times 2^32: their sum. -/
def mkOrM (bs : Bds) (fs : Facts) (k : IntKind) (a b : E) : E :=
  match k, a with
  | .i64, .bin .mul x (.lit 4294967296) => (match (bnd1 bs fs x).within (-2147483648) 2147483647 && (bnd1 bs fs b).within 0 4294967295 with | true => mkAdd (.bin .mul x (.lit 4294967296)) b | false => mkBits .or k (.bin .mul x (.lit 4294967296)) b)
  | _, _ => mkBits .or k a b
def intM (bs : Bds) (fs : Facts) (op : BinOp) (k : IntKind) (a b : E) : Option MC :=
  match op with
  | .add => some (.int k (mkWrap bs fs k (mkAdd a b)))
  | .sub => some (.int k (mkWrap bs fs k (mkSub a b)))
  | .mul => some (.int k (mkWrap bs fs k (mkMul a b)))
  | .quo => if geZero bs fs a && geZero bs fs (mkAdd b (.lit (-1))) then some (.int k (mkWrap bs fs k (mkDiv bs fs a b))) else none
  | .rem => if geZero bs fs a && geZero bs fs (mkAdd b (.lit (-1))) then some (.int k (mkMod bs fs a b)) else none
  | .and => some (.int k (mkAndM bs fs k a b))
  | .or => some (.int k (mkOrM bs fs k a b))
  | .lss => some (.bool (mkLt bs fs a b))
  | .leq => some (.bool (mkLe bs fs a b))
  | .gtr => some (.bool (mkLt bs fs b a))
  | .geq => some (.bool (mkLe bs fs b a))
  | _ => none
def binM (P : Program) (bs : Bds) (fs : Facts) (op : BinOp) (t : Nat) (x y : MV) : R :=
  match op with
  | .eql => match eqM P bs fs t x y with | some e => .v (.c (.bool e)) | none => .fail 71
  | .neq => match eqM P bs fs t x y with | some e => .v (.c (.bool (mkNot e))) | none => .fail 72
  | .shl => match x, y with
    | .c (.int k a), .c (.int _ (.lit n)) => if 0 ≤ n ∧ n ≤ k.bits then .v (.c (.int k (mkWrap bs fs k (mkMul a (.lit (pow2 n.toNat)))))) else .fail 73
    | _, _ => .fail 74
  | .shr => match x, y with
    | .c (.int k a), .c (.int _ (.lit n)) => if 0 ≤ n ∧ n ≤ k.bits then .v (.c (.int k (mkDiv bs fs a (.lit (pow2 n.toNat))))) else .fail 75
    | _, _ => .fail 76
  | op => match x, y with
    | .c (.int k a), .c (.int k' b) => if kbeq k k' then (match intM bs fs op k a b with | some m => .v (.c m) | none => .fail 77) else .fail 78
    | _, _ => .fail 79
def unM (bs : Bds) (fs : Facts) (op : UnOp) (x : MV) : R :=
  match op, x with
  | .not, .c (.bool e) => .v (.c (.bool (mkNot e)))
  | .neg, .c (.int k e) => .v (.c (.int k (mkWrap bs fs k (mkSub (.lit 0) e))))
  | _, _ => .fail 80
def convM (P : Program) (bs : Bds) (fs : Facts) (src dst : Nat) (x : MV) : R :=
  match P.underlying src, P.underlying dst, x with
  | some _, some (.int k), .c (.int _ e) => .v (.c (.int k (mkWrap bs fs k e)))
  | _, _, _ => .fail 81
def capsM (ev : Operand → MV) : List Operand → Option (List (Nat × Nat))
  | [] => some []
  | x :: r => match ev x, capsM ev r with | .c (.ptr b (.lit n)), some l => if 0 ≤ n then some ((b, n.toNat) :: l) else none | _, _ => none
def boundM (z : Nat) (x : Option MV) : Option Nat := match x with | none => some z | some (.c (.int _ e)) => litN e | _ => none
def sliceM (P : Program) (bs : Bds) (fs : Facts) (t : Nat) (x : MV) (lo hi : Option MV) (mx : Option MV) (S : St) : R :=
  match P.underlying t, x, mx with
  | some (.array n el), .c (.ptr b o), none =>
    match szB P el, boundM 0 lo, boundM n hi with
    | some s, some l, some h => if l ≤ h ∧ h ≤ n ∧ geZero bs fs o = true then .v (.c (.slice b (if n = l then o else mkAdd o (.lit (l * s))) (.lit (h - l : Nat)) (.ex (.lit (n - l : Nat))))) else .fail 82
    | _, _, _ => .fail 83
  | some (.slice el), .c (.slice b o (.lit len) (.ex (.lit cp))), none =>
    match szB P el, boundM 0 lo, boundM len.toNat hi with
    | some s, some l, some h => if l ≤ h ∧ h ≤ cp.toNat ∧ 0 ≤ len ∧ 0 ≤ cp ∧ geZero bs fs o = true then .v (.c (.slice b (if cp.toNat = l then o else mkAdd o (.lit (l * s))) (.lit (h - l : Nat)) (.ex (.lit (cp.toNat - l : Nat))))) else .fail 84
    | _, _, _ => .fail 85
  | some (.slice el), .c (.slice b (.lit o) (.lit len) (.opn m)), none =>
    match szB P el, S.get b, boundM 0 lo, boundM len.toNat hi with
    | some s, .cells cs _ q, some l, some h =>
      if q = s ∧ 0 < s ∧ l ≤ h ∧ 0 ≤ o ∧ (m + h) * s ≤ cs.length then (if l < h then .v (.c (.slice b (.lit (o + l * s)) (.lit (h - l : Nat)) (.opn (m + l)))) else .v (.c (.emp b o.toNat (m + l) (l * s)))) else .fail 87
    | _, _, _, _ => .fail 88
  | some (.slice el), .c .nils, none =>
    match szB P el, boundM 0 lo, boundM 0 hi with
    | some _, some 0, some 0 => .v (.c .nils)
    | _, _, _ => .fail 116
  | _, _, _ => .fail 86

/-! ### Builtins -/
def lenM (P : Program) (bs : Bds) (fs : Facts) (t : Nat) (x : MV) : R :=
  match P.underlying t, x with
  | some (.slice _), .c (.slice _ _ l _) => if geZero bs fs l then .v (.c (.int .i64 l)) else .fail 91
  | some (.slice _), .c .nils => .v (.c (.int .i64 (.lit 0)))
  | some (.slice _), .c (.emp _ _ _ _) => .v (.c (.int .i64 (.lit 0)))
  | some (.array n _), _ => .v (.c (.int .i64 (.lit n)))
  | _, _ => .fail 92
def minM (bs : Bds) (fs : Facts) (x y : MV) : R :=
  match x, y with
  | .c (.int k a), .c (.int _ b) =>
    match bs.fk, mkLt bs fs b a with
    | true, .bl true => .v (.c (.int k b))
    | true, .bl false => .v (.c (.int k a))
    | true, e => .need e
    | false, _ => .v (.c (.int k (mkMin bs fs (simpI bs fs a) (simpI bs fs b))))
  | _, _ => .fail 93
/-- The elements of a slice, where they lie in a block that is known. -/
def slCells (P : Program) (el : Nat) (x : MV) (S : St) : Option (Nat × List MC) :=
  match x with
  | .c .nils => some (0, [])
  | .c (.slice b o (.lit len) _) =>
    match S.get b, litN o, szB P el with
    | .cells cs _ _, some n, some s => if 0 ≤ len ∧ n + len.toNat * s ≤ cs.length then some (len.toNat, (cs.drop n).take (len.toNat * s)) else none
    | _, _, _ => none
  | _ => none
def appendM (P : Program) (ts tx : Nat) (s x : MV) (S : St) : R :=
  match P.underlying ts with
  | some (.slice el) =>
    match szB P el, zeroM P el, slCells P el s S, slCells P el x S with
    | some (q + 1), some z, some (ls, cs), some (lx, xs) =>
      if ts = tx ∧ ls + lx ≤ 1000 ∧ z.length = q + 1 ∧ bytesB P el ≤ 1000000 then
        if lx = 0 then (match s with | .c .nils => .v s | .c (.slice _ _ _ (.ex (.lit cp))) => if (ls : Int) ≤ cp then .v s else .fail 89 | _ => .fail 90) else
        match s with
        | .c .nils => .ok { mv := .c (.slice S.n (.lit 0) (.lit lx) (.opn 0)), new := [.cells xs el (q + 1)] }
        | .c (.slice _ _ _ (.ex (.lit cp))) =>
          if cp = ls then .ok { mv := .c (.slice S.n (.lit 0) (.lit (ls + lx : Nat)) (.opn 0)), new := [.cells (cs ++ xs) el (q + 1)] } else .fail 94
        | .c (.slice b (.lit 0) _ (.opn 0)) =>
          match S.get b with
          | .cells _ t' q' =>
            if Nat.beq t' el && Nat.beq q' (q + 1) then .ok { mv := .c (.slice S.n (.lit 0) (.lit (ls + lx : Nat)) (.opn 0)), new := [.cells (cs ++ xs) el (q + 1)], upd := [(b, .gone)] } else .fail 87
          | _ => .fail 88
        | _ => .fail 95
      else .fail 96
    | _, _, _, _ => .fail 97
  | _ => .fail 98

/-! ### The same, of slices whose length is a symbol -/
def buildSliceX (P : Program) (t len : Nat) (parts : Option (List (Nat × List MC))) (S : St) : R :=
  match len, parts, P.underlying t with
  | 0, some [], some (.slice el) => (match szB P el with | some _ => .ok { mv := .c (.slice S.n (.lit 0) (.lit 0) (.ex (.lit 0))), new := [.cells [] el 0] } | none => .fail 66)
  | _, _, _ => buildSliceM P t len parts S
def leB (bs : Bds) (fs : Facts) (a c : E) : Bool := isT (mkLe bs fs a c) || (match a with | .bin (.gi 1) x y => isT (mkLe bs fs x c) || isT (mkLe bs fs y c) | _ => false)
def boundE (z : E) (x : Option MV) : Option E := match x with | none => some z | some (.c (.int _ e)) => some e | _ => none
def sliceX (P : Program) (bs : Bds) (fs : Facts) (t : Nat) (x : MV) (lo hi : Option MV) (mx : Option MV) (S : St) : R :=
  match sliceM P bs fs t x lo hi mx S with
  | .ok r => .ok r
  | q =>
    match P.underlying t, x, mx with
    | some (.slice el), .c (.slice b o len (.ex cp)), none =>
      match szB P el, boundE (.lit 0) lo, boundE len hi with
      | some s, some l, some h =>
        match geZero bs fs o && (geZero bs fs l && (leB bs fs l h && leB bs fs h cp)) with
        | true =>
          match mkEq bs fs cp l with
          | .bl true => .v (.c (.slice b o (mkSub h l) (.ex (mkSub cp l))))
          | .bl false => .v (.c (.slice b (mkAdd o (mkMul l (.lit s))) (mkSub h l) (.ex (mkSub cp l))))
          | e => .need e
        | false => .fail 67
      | _, _, _ => .fail 68
    | _, _, _ => q
/-- Some elements more, behind a row of any length that is the slice's own. -/
def mulN (e : E) (s : Nat) : E := match s with | 1 => e | _ => .bin .mul e (.lit s)
def updsG (o : E) : E → Nat → List MC → Option E
  | x, _, [] => some x
  | x, i, .int _ e :: l => updsG o (.upd x (mkAdd o (.lit i)) e) (i + 1) l
  | _, _, _ => none
def kindsR (ks : List IntKind) : Nat → List MC → Bool
  | _, [] => true
  | i, .int k _ :: l => kbeq k (ks.getD (i % ks.length) .u8) && kindsR ks (i + 1) l
  | _, _ => false
def appendR (P : Program) (bs : Bds) (fs : Facts) (ts tx : Nat) (s x : MV) (S : St) : R :=
  match s with
  | .c (.slice b (.lit 0) len (.opn 0)) =>
    match S.get b, P.underlying ts with
    | .arr y ks (.lit 0) n t wr [], some (.slice el) =>
      match szB P el, zeroM P el, slCells P el x S, (bnd bs fs len).hi with
      | some (q + 1), some z, some (lx + 1, xs), some top =>
        match updsG n y 0 xs with
        | some y' =>
          match Nat.beq ts tx && (Nat.beq wr (q + 3) && (Nat.beq t el && (Nat.beq z.length (q + 1) && (E.beq n (mulN len (q + 1)) && (geZero bs fs len && (decide ((top + (lx + 1 : Nat)) * (bytesB P el : Nat) ≤ 140737488355328) && (decide (top + (lx + 1 : Nat) ≤ 4611686018427387904) && (Nat.beq ((q + 1) % ks.length) 0 && kindsR ks 0 xs)))))))) with
          | true => .ok { mv := .c (.slice S.n (.lit 0) (mkAdd len (.lit (lx + 1 : Nat))) (.opn 0)), new := [.arr y' ks (.lit 0) (mulN (mkAdd len (.lit (lx + 1 : Nat))) (q + 1)) el (q + 3) []], upd := [(b, .gone)] }
          | false => .fail 111
        | none => .fail 112
      | _, _, _, _ => .fail 113
    | _, _ => .fail 114
  | _ => .fail 115
def appendY (P : Program) (bs : Bds) (fs : Facts) (ts tx : Nat) (s x : MV) (S : St) : R :=
  match appendR P bs fs ts tx s x S with | .ok r => .ok r | _ => appendM P ts tx s x S
def bare (s : MV) : Bool := match s with | .c .nils => true | .c (.slice _ _ (.lit 0) (.ex (.lit 0))) => true | _ => false
def appendX (P : Program) (bs : Bds) (fs : Facts) (ts tx : Nat) (s x : MV) (S : St) : R :=
  match x with
  | .c (.slice b o len _) =>
    match S.get b with
    | .arr y ks lo n _ _ _ =>
      match P.underlying ts with
      | some (.slice el) =>
        match szB P el, zeroM P el, (bnd bs fs len).hi with
        | some (q + 1), some z, some top =>
          match bare s && (Nat.beq ts tx && (Nat.beq z.length (q + 1) && (E.beq o lo && (E.beq n (mkMul len (.lit (q + 1 : Nat))) && (geZero bs fs len && (decide (top * (bytesB P el : Nat) ≤ 140737488355328) && decide (top ≤ 4611686018427387904))))))) with
          | true =>
            match mkEq bs fs len (.lit 0) with
            | .bl true => .v s
            | .bl false => .ok { mv := .c (.slice S.n (.lit 0) len (.opn 0)), new := [.arr y ks (.lit 0) n el (q + 3) []] }
            | e => .need e
          | false => .fail 69
        | _, _, _ => .fail 70
      | _ => .fail 98
    | _ =>
      match bare s && (Nat.beq ts tx && E.beq len (.lit 0)) with
      | true => (match P.underlying ts with | some (.slice el) => (match szB P el with | some _ => .v s | none => .fail 70) | _ => .fail 98)
      | false => appendY P bs fs ts tx s x S
  | _ => appendM P ts tx s x S

/-! ### One operation (but for the calls of Go functions) -/
def condM (bs : Bds) (fs : Facts) (x : MV) : Option (Bool ⊕ E) :=
  match x with
  | .c (.bool e) => match simpT bs fs e with | .bl b => some (.inl b) | e => some (.inr e)
  | _ => none
def opM (P : Program) (bs : Bds) (fs : Facts) (ev : Operand → MV) (S : St) (op : Op) : R :=
  match op with
  | .move x => .v (ev x)
  | .assign x => .v (ev x)
  | .pick c a b => match condM bs fs (ev c) with | some (.inl true) => .v (ev a) | some (.inl false) => .v (ev b) | some (.inr e) => .need e | none => .fail 101
  | .alloc t => allocM P t S
  | .box t x => boxX t (ev x) S
  | .build t parts => buildX P t (partsM ev parts.toList)
  | .buildSlice t len parts => buildSliceX P t len (partsM ev parts.toList) S
  | .load t p => loadM P bs fs t (ev p) S
  | .store t p v => storeM P bs fs t (ev p) (ev v) S
  | .nilCheck x => match ev x with | .c (.ptr b o) => .v (.c (.ptr b o)) | _ => .fail 102
  | .binOp op t x y _ => binM P bs fs op t (ev x) (ev y)
  | .unOp op _ x => unM bs fs op (ev x)
  | .convert s d x => convM P bs fs s d (ev x)
  | .makeFunc (.func f) first caps => if first.toList.isEmpty then match capsM ev caps.toList with | some l => .v (.c (.fn f l)) | none => .fail 103 else .fail 104
  | .slice t x lo hi mx => sliceX P bs fs t (ev x) (lo.map ev) (hi.map ev) (mx.map ev) S
  | .fieldAddr s x f => fieldAddrM P bs fs s (ev x) f
  | .field t x f => fieldM P t (ev x) f
  | .indexAddr t x i => indexAddrM P bs fs t (ev x) (ev i) S
  | .index t x i => indexX P bs fs t (ev x) (ev i)
  | .extract x i => match ev x with
    | .tup l => match l[i]? with | some (true, cs) => .v (.agg cs) | some (false, [m]) => .v (.c m) | _ => .fail 105
    | _ => .fail 106
  | .call { callee := .builtin .len, args, argTypes } => match args.toList, argTypes.toList with | [x], [t] => lenM P bs fs t (ev x) | _, _ => .fail 107
  | .call { callee := .builtin .min, args, .. } => match args.toList with | [x, y] => minM bs fs (ev x) (ev y) | _ => .fail 108
  | .call { callee := .builtin .append, args, argTypes } => match args.toList, argTypes.toList with | [s, x], [t, u] => appendX P bs fs t u (ev s) (ev x) S | _, _ => .fail 109
  | _ => .fail 110

/-! ### Calls, regions, code -/
/-- What a call comes to, way by way. A fork bears the facts that stood ahead of it. -/
inductive CT where
  | leaf (r : Res) (fs : Facts) | br (fs : Facts) (e : E) (t f : CT) | dead | fail (s : Nat)
  deriving Inhabited
/-- What a call comes to, out of its arguments. -/
abbrev Callee := Nat → List MV → St → Facts → CT
def R.ct (fs : Facts) : R → CT
  | .ok r => .leaf r fs
  | .need _ => .fail 99
  | .fail s => .fail s
inductive SR where
  | ct (t : CT) | need (e : E)
def MC.nf {α : Type} (m : MC) (k : MC → α) : α :=
  match m with
  | .int q e => e.nf fun e => k (.int q e)
  | .bool e => e.nf fun e => k (.bool e)
  | .ptr b o => o.nf fun o => k (.ptr b o)
  | .slice b o l c => o.nf fun o => l.nf fun l => k (.slice b o l c)
  | m => k m
def csNf {α : Type} : List MC → (List MC → α) → α
  | [], k => k []
  | m :: l, k => m.nf fun m => csNf l fun l => k (m :: l)
def tupNf {α : Type} : List (Bool × List MC) → (List (Bool × List MC) → α) → α
  | [], k => k []
  | p :: l, k => csNf p.2 fun c => tupNf l fun l => k ((p.1, c) :: l)
def MV.nf {α : Type} (m : MV) (k : MV → α) : α :=
  match m with
  | .c m => m.nf fun m => k (.c m)
  | .agg l => csNf l fun l => k (.agg l)
  | .tup l => tupNf l fun l => k (.tup l)
  | .row x o n m => x.nf fun x => o.nf fun o => k (.row x o n m)
  | m => k m
def Blk.nf {α : Type} (b : Blk) (k : Blk → α) : α :=
  match b with
  | .cells cs t q => csNf cs fun cs => k (.cells cs t q)
  | .arr x ks lo n t w tl => x.nf fun x => lo.nf fun lo => n.nf fun n => csNf tl fun tl => k (.arr x ks lo n t w tl)
  | .gone => k .gone
def blksNf {α : Type} : List Blk → (List Blk → α) → α
  | [], k => k []
  | b :: l, k => b.nf fun b => blksNf l fun l => k (b :: l)
def updsNf {α : Type} : List (Nat × Blk) → (List (Nat × Blk) → α) → α
  | [], k => k []
  | p :: l, k => p.2.nf fun b => updsNf l fun l => k ((p.1, b) :: l)
def Res.nf {α : Type} (r : Res) (k : Res → α) : α := r.mv.nf fun m => blksNf r.new fun n => updsNf r.upd fun u => k ⟨m, n, u⟩
def CT.nf {α : Type} : CT → (CT → α) → α
  | .leaf r fs, k => r.nf fun r => k (.leaf r fs)
  | .br fs e t f, k => e.nf fun e => t.nf fun t => f.nf fun f => k (.br fs e t f)
  | .dead, k => k .dead
  | .fail s, k => k (.fail s)
theorem MC.nf_eq {α : Type} (m : MC) (k : MC → α) : m.nf k = k m := by cases m <;> simp only [MC.nf, E.nf_eq]
theorem csNf_eq {α : Type} : ∀ (l : List MC) (k : List MC → α), csNf l k = k l
  | [], _ => rfl
  | m :: l, k => by simp only [csNf, MC.nf_eq, csNf_eq l]
theorem tupNf_eq {α : Type} : ∀ (l : List (Bool × List MC)) (k : List (Bool × List MC) → α), tupNf l k = k l
  | [], _ => rfl
  | p :: l, k => by simp only [tupNf, csNf_eq, tupNf_eq l]
theorem MV.nf_eq {α : Type} (m : MV) (k : MV → α) : m.nf k = k m := by cases m <;> simp only [MV.nf, MC.nf_eq, csNf_eq, tupNf_eq, E.nf_eq]
theorem Blk.nf_eq {α : Type} (m : Blk) (k : Blk → α) : m.nf k = k m := by cases m <;> simp only [Blk.nf, csNf_eq, E.nf_eq]
theorem blksNf_eq {α : Type} : ∀ (l : List Blk) (k : List Blk → α), blksNf l k = k l
  | [], _ => rfl
  | m :: l, k => by simp only [blksNf, Blk.nf_eq, blksNf_eq l]
theorem updsNf_eq {α : Type} : ∀ (l : List (Nat × Blk)) (k : List (Nat × Blk) → α), updsNf l k = k l
  | [], _ => rfl
  | p :: l, k => by simp only [updsNf, Blk.nf_eq, updsNf_eq l]
theorem Res.nf_eq {α : Type} (r : Res) (k : Res → α) : r.nf k = k r := by simp only [Res.nf, MV.nf_eq, blksNf_eq, updsNf_eq]
theorem CT.nf_eq {α : Type} : ∀ (t : CT) (k : CT → α), t.nf k = k t
  | .leaf r fs, k => by simp only [CT.nf, Res.nf_eq]
  | .br fs e t f, k => by simp only [CT.nf, E.nf_eq, CT.nf_eq t, CT.nf_eq f]
  | .dead, _ => rfl
  | .fail _, _ => rfl
def SR.nf (s : SR) : SR := match s with | .ct t => t.nf .ct | .need e => e.nf .need
theorem SR.nf_eq (s : SR) : s.nf = s := by cases s <;> simp only [SR.nf, CT.nf_eq, E.nf_eq]
def stepM0 (P : Program) (bs : Bds) (call : Callee) (fs : Facts) (fr : Fr) (S : St) (op : Op) : SR :=
  match op with
  | .call { callee := .value f, args, .. } =>
    match evO fr f with
    | .c (.fn g caps) => .ct (call g (args.toList.map (evO fr) ++ caps.map fun p => .c (.ptr p.1 (.lit p.2))) S fs)
    | _ => .ct (.fail 111)
  | op => match opM P bs fs (evO fr) S op with | .need e => .need e | r => .ct (r.ct fs)
def stepM (P : Program) (bs : Bds) (call : Callee) (fs : Facts) (fr : Fr) (S : St) (op : Op) : SR := (stepM0 P bs call fs fr S op).nf
theorem stepM_eq (P : Program) (bs : Bds) (call : Callee) (fs : Facts) (fr : Fr) (S : St) (op : Op) : stepM P bs call fs fr S op = stepM0 P bs call fs fr S op := SR.nf_eq _
def putM (fr : Fr) (dst : Option Nat) (m : MV) : Fr := match dst with | some d => fr.set .unk d m | none => fr
/-- Is the operation wanted? Its guard's temporary tells. -/
def wantM (bs : Bds) (fs : Facts) (ops : List Oper) (fr : Fr) (o : Oper) : Option (Bool ⊕ E) :=
  match o.guard with
  | none => some (.inl true)
  | some (j, want) =>
    match (ops[j]?).bind (·.dst) with
    | some d =>
      match fr.get .unk d with
      | .und => some (.inl false)
      | m => match condM bs fs m with | some (.inl b) => some (.inl (b == want)) | r => r
    | none => none

inductive Ex where
  | normal | exit (id : Nat) | ret
  deriving DecidableEq, Inhabited
structure Leaf where
  ex : Ex
  N : Nat
  fr : Fr
  S : St
  fs : Facts
  d : List Nat
  deriving Inhabited
inductive Tr where
  | leaf (l : Leaf) | br (fs : Facts) (e : E) (t f : Tr) | dead | fail (s : Nat)
  deriving Inhabited

/-! ### Two ways meet -/
def joinC (e : E) (a b : MC) : Option MC :=
  if MC.beq a b then some a else
  match a, b with
  | .int k x, .int k' y => if kbeq k k' then some (.int k (mkIteN e x y)) else none
  | .bool x, .bool y => some (.bool (mkIteT e x y))
  | _, _ => none
def joinCs (e : E) : List MC → List MC → Option (List MC)
  | [], [] => some []
  | a :: l, b :: r => match joinC e a b, joinCs e l r with | some m, some q => some (m :: q) | _, _ => none
  | _, _ => none
def joinV (e : E) (a b : MV) : MV :=
  match a, b with
  | .und, .und => .und
  | .c x, .c y => match joinC e x y with | some m => .c m | none => .unk
  | .agg x, .agg y => match joinCs e x y with | some l => .agg l | none => .unk
  | _, _ => .unk
def joinB (e : E) (a b : Blk) : Blk :=
  match a, b with
  | .cells x t q, .cells y t' q' => if Nat.beq t t' && Nat.beq q q' then match joinCs e x y with | some l => .cells l t q | none => .gone else .gone
  | .arr x ks lo n t w tl, .arr y ks' lo' n' t' w' tl' => if Blk.beq (.arr x ks lo n t w tl) (.arr x ks' lo' n' t' w' tl') then .arr (mkIteI e x y) ks lo n t w tl else .gone
  | _, _ => .gone
def joinFr (e : E) : Fr → Fr → Fr
  | .n l v r, .n l' v' r' => .n (joinFr e l l') (joinV e v v') (joinFr e r r')
  | _, _ => .e
def joinBs (e : E) : Tri Blk → Tri Blk → Tri Blk
  | .n l v r, .n l' v' r' => .n (joinBs e l l') (joinB e v v') (joinBs e r r')
  | _, _ => .e
def joinSt (e : E) (a b : St) : St := ⟨joinBs e a.t b.t, if a.n ≤ b.n then b.n else a.n⟩
def MV.none? : MV → Bool
  | .unk => true | .und => true | _ => false
/-- Does what is known go, where two ways meet? -/
def lossFr (e : E) : Fr → Fr → Bool
  | .n l v r, .n l' v' r' => ((joinV e v v').none? && !v.none? && !v'.none?) || (lossFr e l l' || lossFr e r r')
  | _, _ => false
def Blk.gone? : Blk → Bool
  | .gone => true | _ => false
def lossBs (e : E) : Tri Blk → Tri Blk → Bool
  | .n l v r, .n l' v' r' => ((joinB e v v').gone? && !v.gone? && !v'.gone?) || (lossBs e l l' || lossBs e r r')
  | _, _ => false
def elemN (x : Nat) : List Nat → Bool
  | [] => false
  | y :: r => Nat.beq x y || elemN x r
/-- Each once. -/
def joinD : List Nat → List Nat → List Nat
  | [], b => b
  | x :: r, b => match elemN x b with | true => joinD r b | false => joinD r (x :: b)
/-- Two ways that both go on, behind a test, become one, if nothing that is known goes by it. -/
def brM (keep : Bool) (fs : Facts) (e : E) (t f : Tr) : Tr :=
  match keep, t, f with
  | true, t, f => .br fs e t f
  | false, .leaf a, .leaf b =>
    if decide (a.ex = b.ex) && Nat.beq a.N b.N && !(lossFr e a.fr b.fr || lossBs e a.S.t b.S.t) then
      .leaf { ex := a.ex, N := a.N, fr := joinFr e a.fr b.fr, S := joinSt e a.S b.S, fs := fs, d := joinD a.d b.d }
    else .br fs e (.leaf a) (.leaf b)
  | false, t, f => .br fs e t f
/-- A way that the facts allow; one that they do not is dead. -/
def way (bs : Bds) (fs : Facts) (e : E) (v : Bool) (f : Facts → Tr) : Tr :=
  match learn bs fs e v with | none => .dead | some g => f g
def fork (bs : Bds) (keep : Bool) (fs : Facts) (e : E) (f : Facts → Tr) : Tr := brM keep fs e (way bs fs e true f) (way bs fs e false f)
def Tr.bind (t : Tr) (f : Leaf → Tr) : Tr :=
  match t with
  | .leaf l => f l
  | .br fs e x y => .br fs e (x.bind f) (y.bind f)
  | .dead => .dead
  | .fail s => .fail s

/-! ### A region -/
/-- What one operation has come to. -/
structure Log where
  on : Bool
  n : Nat
  r : Res
  /-- the frame, the blocks and the facts ahead of it -/
  fr : Fr
  S : St
  fs : Facts
  deriving Inhabited
/-- Is there room for what an operation came to? -/
def fits (l : Leaf) (o : Oper) (r : Res) : Bool :=
  (match o.dst with | some d => Nat.blt d l.N | none => true) && Nat.ble (l.S.n + r.new.length) 4000
/-- A call's ways, each gone on with. -/
def CT.bind (keep : Bool) (f : Res → Facts → Tr) : CT → Tr
  | .leaf r g => f r g
  | .br fs e a b => brM keep fs e (a.bind keep f) (b.bind keep f)
  | .dead => .dead
  | .fail s => .fail s
/-- The operations one by one, in the text's order; 'fin' behind the last. -/
def runOps (P : Program) (bs : Bds) (call : Callee) (keep : Bool) (all : List Oper) (fin : Leaf → List Log → Tr) : Nat → List Oper → Leaf → List Log → Tr
  | 0, _, _, _ => .fail 121
  | n + 1, ops, l, lg =>
    match ops with
    | [] => fin l lg
    | o :: rest =>
      match wantM bs l.fs all l.fr o with
      | some (.inl true) =>
        match stepM P bs call l.fs l.fr l.S o.op with
        | .ct t => t.bind keep fun r g =>
            match fits l o r with
            | false => .fail 113
            | true => runOps P bs call keep all fin n rest { l with fr := putM l.fr o.dst r.mv, S := l.S.app r, fs := g, d := r.upd.map (·.1) ++ l.d } (⟨true, l.S.n, r, l.fr, l.S, l.fs⟩ :: lg)
        | .need e => fork bs keep l.fs e fun g => runOps P bs call keep all fin n ops { l with fs := g } lg
      | some (.inl false) =>
        match fits l o { mv := .und } with
        | false => .fail 114
        | true => runOps P bs call keep all fin n rest { l with fr := putM l.fr o.dst .und } (⟨false, l.S.n, { mv := .und }, .e, {}, l.fs⟩ :: lg)
      | some (.inr e) => fork bs keep l.fs e fun g => runOps P bs call keep all fin n ops { l with fs := g } lg
      | none => .fail 112

/-! ### A region that draws its order: each operation once more, seeing only what surely lies behind it -/
def maskE (prev : List Nat) : List Edge → Nat
  | [] => 0
  | e :: r => if Region.binds .any e then (2 ^ e.on ||| prev.getD e.on 0) ||| maskE prev r else maskE prev r
def masksM : List Oper → List Nat → List Nat
  | [], p => p
  | o :: r, p => masksM r (p ++ [maskE p o.after.toList])
/-- Who stands ahead of each operation, by the edges that bind. -/
def beforeM (ops : List Oper) : List Nat := masksM ops []
def ahead (b : List Nat) (j i : Nat) : Bool := Nat.blt i j && (b.getD j 0).testBit i
/-- All edges that bind lead back in the text. -/
def backB : Nat → List Oper → Bool
  | _, [] => true
  | j, o :: r => o.after.toList.all (fun e => !Region.binds .any e || Nat.blt e.on j) && backB (j + 1) r
def offB (d : Nat) : List Oper → Bool
  | [] => true
  | o :: r => (match o.dst with | some d' => !(Nat.beq d d') | none => true) && offB d r
/-- No two operations have one slot. -/
def apartB' : List Oper → Bool
  | [] => true
  | o :: r => (match o.dst with | some d => offB d r | none => true) && apartB' r
/-- The slots that one operation may lean on. -/
def viewFr (b : List Nat) (j : Nat) : List Oper → List Log → Nat → Fr → Fr
  | o :: ops, g :: lg, i, fr => viewFr b j ops lg (i + 1) (match o.dst with | some d => (match ahead b j i, ahead b i j || Nat.beq i j with | true, _ => fr.set .unk d g.r.mv | false, true => fr | false, false => fr.set .unk d .unk) | none => fr)
  | _, _, _, fr => fr
/-- The operation that makes a block; 'i': the number of the first log. -/
def makerOf (x : Nat) : List Log → Nat → Option (Nat × Blk)
  | [], _ => none
  | g :: lg, i => if Nat.ble g.n x && Nat.blt x (g.n + g.r.new.length) then some (i, g.r.new.getD (x - g.n) .gone) else makerOf x lg (i + 1)
def turned (x : Nat) : List (Nat × Blk) → Option Blk
  | [] => none
  | p :: l => match turned x l with | some b => some b | none => if Nat.beq p.1 x then some p.2 else none
/-- The operations that turn a block, and what it is then. -/
def turnersOf (x : Nat) : List Log → Nat → List (Nat × Blk)
  | [], _ => []
  | g :: lg, i => match turned x g.r.upd with | some b => (i, b) :: turnersOf x lg (i + 1) | none => turnersOf x lg (i + 1)
/-- A block, as operation j sees it, whatever the order; gone: it may be otherwise. -/
def viewB (S0 : St) (lg : List Log) (b : List Nat) (j x : Nat) : Blk :=
  let made : Blk := if Nat.blt x S0.n then S0.get x else match makerOf x lg 0 with | some (i, m) => if ahead b j i then m else .gone | none => .gone
  match turnersOf x lg 0 with
  | [] => made
  | [(w, m)] => if ahead b j w then m else if Nat.beq w j || ahead b w j then made else .gone
  | _ => .gone
def touchedL : List Log → List Nat
  | [] => []
  | g :: lg => g.r.upd.map (·.1) ++ touchedL lg
def belowL (k : Nat) : List Nat → List Nat
  | [] => []
  | x :: r => match Nat.blt x k with | true => x :: belowL k r | false => belowL k r
def fromTo : Nat → Nat → List Nat
  | _, 0 => []
  | x, k + 1 => x :: fromTo (x + 1) k
def viewAll (S0 : St) (lg : List Log) (b : List Nat) (j : Nat) : List Nat → Tri Blk → Tri Blk
  | [], t => t
  | x :: r, t => viewAll S0 lg b j r (t.set .gone x (viewB S0 lg b j x))
/-- The state as operation j sees it: only what was turned or made since is looked at anew. -/
def viewS (S0 : St) (lg : List Log) (b : List Nat) (j : Nat) (k : Nat) (_ : Nat) (_ : St) : St :=
  ⟨viewAll S0 lg b j (belowL k (joinD (touchedL lg) []) ++ fromTo S0.n (k - S0.n)) S0.t, k⟩
def followCT (bs : Bds) (fs : Facts) : CT → Option Res
  | .leaf r _ => some r
  | .br _ e t f => match simpT bs fs e with | .bl true => followCT bs fs t | .bl false => followCT bs fs f | _ => none
  | .dead => none
  | .fail _ => none
def blksBeq : List Blk → List Blk → Bool
  | [], [] => true
  | a :: l, b :: r => Blk.beq a b && blksBeq l r
  | _, _ => false
def updsBeq : List (Nat × Blk) → List (Nat × Blk) → Bool
  | [], [] => true
  | a :: l, b :: r => Nat.beq a.1 b.1 && (Blk.beq a.2 b.2 && updsBeq l r)
  | _, _ => false
def Res.beq (a b : Res) : Bool := MV.beq a.mv b.mv && (blksBeq a.new b.new && updsBeq a.upd b.upd)
/-- What a call hangs on: the function, the arguments. -/
def callKey (fr : Fr) (op : Op) : Option (MV × List MV) :=
  match op with
  | .call { callee := .value f, args, .. } => some (evO fr f, args.toList.map (evO fr))
  | _ => none
def mvsBeq : List MV → List MV → Bool
  | [], [] => true
  | a :: l, b :: r => MV.beq a b && mvsBeq l r
  | _, _ => false
def sameKey (fr fr' : Fr) (op : Op) : Bool :=
  match callKey fr op, callKey fr' op with
  | some (a, l), some (b, r) => MV.beq a b && mvsBeq l r
  | _, _ => false
/-- All blocks that are known here are known there, and the same. -/
def coversT : Tri Blk → Tri Blk → Bool
  | .e, _ => true
  | .n l v r, b => (v.gone? || Blk.beq v (b.top .gone)) && (coversT l b.left && coversT r b.right)
/-- The same call, over the same blocks: what it came to stands. -/
def again (g : Log) (fr : Fr) (V : St) (op : Op) : Bool := sameKey fr g.fr op && (Nat.beq g.S.n V.n && coversT g.S.t V.t)
def checkOp (P : Program) (bs : Bds) (call : Callee) (all : List Oper) (b : List Nat) (l0 : Leaf) (lg : List Log) (_ : Facts) (j : Nat) (o : Oper) (g : Log) : Bool :=
  let fr := viewFr b j all lg 0 l0.fr
  match wantM bs g.fs all fr o with
  | some (.inl true) =>
    match g.on with
    | true => again g fr (viewS l0.S lg b j g.n 0 {}) o.op || (match stepM P bs call g.fs fr (viewS l0.S lg b j g.n 0 {}) o.op with
      | .ct t => (match followCT bs g.fs t with | some r => r.beq g.r | none => false)
      | _ => false)
    | false => false
  | some (.inl false) => !g.on
  | _ => false
def checkAll (P : Program) (bs : Bds) (call : Callee) (all : List Oper) (b : List Nat) (l0 : Leaf) (lg : List Log) (fs : Facts) : Nat → List Oper → List Log → Bool
  | _, [], [] => true
  | j, o :: ops, g :: r => checkOp P bs call all b l0 lg fs j o g && checkAll P bs call all b l0 lg fs (j + 1) ops r
  | _, _, _ => false
/-- A region; where a look back does not go, it is run once more under what is known at its end. -/
def regionW (P : Program) (bs : Bds) (call : Callee) (keep draw : Bool) (ops : List Oper) (next : Leaf → Tr) (l : Leaf) : Tr :=
  runOps P bs call keep ops (fun l' lg =>
    match draw with
    | false => .leaf l'
    | true => if backB 0 ops && (apartB' ops && checkAll P bs call ops (beforeM ops) l lg.reverse l'.fs 0 ops lg.reverse) then .leaf l' else next { l with fs := l'.fs }) 500 ops l []
def regionN (P : Program) (bs : Bds) (call : Callee) (keep draw : Bool) (ops : List Oper) : Nat → Leaf → Tr
  | 0 => regionW P bs call keep draw ops fun _ => .fail 122
  | n + 1 => regionW P bs call keep draw ops (regionN P bs call keep draw ops n)
def region (P : Program) (bs : Bds) (call : Callee) (keep draw : Bool) (ops : List Oper) (l : Leaf) : Tr := regionN P bs call keep draw ops 2 l

structure Env where
  bs : Bds := {}
  /-- Functions that are known by what they come to. -/
  sum : Callee := fun _ _ _ _ => .fail 131
  /-- Functions whose code is run. -/
  fns : List (Nat × Func) := []
  keep : Bool := false
  /-- Marks in the code of the functions that are run: loops that are known by what they come to. -/
  loops : Nat → (Code → Leaf → Tr) → Leaf → Tr := fun _ _ _ => .fail 144
  /-- What stands at a mark in the program itself. -/
  lk : Nat → Code → Prop := fun k c => c = .goto k
def lookup {α : Type} (n : Nat) : List (Nat × α) → Option α
  | [] => none
  | (k, a) :: r => if Nat.beq k n then some a else lookup n r
/-- The functions of the kinds, by what they come to. -/
inductive SK where
  | b1 (j : Nat) | i1 (j : Nat) | b2 (j : Nat) | i2 (j : Nat)
  deriving DecidableEq, Inhabited
def sumK (bs : Bds) (l : List (Nat × SK)) : Callee := fun f args _ fs =>
  match lookup f l, args with
  | some (.b1 j), [.c (.int .u8 a)] => .leaf { mv := .c (.bool (mkFb bs fs j a)) } fs
  | some (.i1 j), [.c (.int .u8 a)] => .leaf { mv := .c (.int .u8 (mkFi j a)) } fs
  | some (.b2 j), [.agg [.int .u8 a, .int .u8 b]] => .leaf { mv := .c (.bool (mkGb bs fs j a b)) } fs
  | some (.i2 j), [.agg [.int .u8 a, .int .u8 b]] => .leaf { mv := .c (.int .u8 (mkGi j a b)) } fs
  | _, _ => .fail 136
def resM (P : Program) (bs : Bds) (fs : Facts) (fr : Fr) (S : St) : ResultVar → Option (Bool × List MC)
  | .tmp t => match fr.get .unk t with | .c m => some (false, [m]) | .agg l => some (true, l) | _ => none
  | .cell p t => match loadM P bs fs t (fr.get .unk p) S with | .ok { mv := .c m, .. } => some (false, [m]) | .ok { mv := .agg l, .. } => some (true, l) | _ => none
def resMs (P : Program) (bs : Bds) (fs : Facts) (fr : Fr) (S : St) : List ResultVar → Option (List (Bool × List MC))
  | [] => some []
  | r :: l => match resM P bs fs fr S r, resMs P bs fs fr S l with | some a, some q => some (a :: q) | _, _ => none
def resV (P : Program) (bs : Bds) (fs : Facts) (fr : Fr) (S : St) (l : List ResultVar) : Option MV :=
  match resMs P bs fs fr S l with
  | some [(false, [m])] => some (.c m)
  | some [(true, cs)] => some (.agg cs)
  | some [_] => none
  | some l => some (.tup l)
  | none => none
def MC.refs : MC → Bool
  | .ptr _ _ => true | .slice _ _ _ _ => true | .fn _ (_ :: _) => true | .emp _ _ _ _ => true | _ => false
def MV.refs : MV → Bool
  | .c m => m.refs | .agg l => l.any MC.refs | .tup l => l.any fun p => p.2.any MC.refs | _ => false
def Blk.refs : Blk → Bool
  | .cells cs _ _ => cs.any MC.refs | .arr _ _ _ _ _ _ tl => tl.any MC.refs | _ => false
/-- The caller's blocks that a callee has turned. -/
def pickSt (S0 S : St) : List Nat → List (Nat × Blk)
  | [] => []
  | i :: l => if Nat.blt i S0.n && !(S0.get i).gone? then (i, S.get i) :: pickSt S0 S l else pickSt S0 S l
/-- The blocks from one number on. -/
def newSt (S : St) (i : Nat) : Nat → List Blk
  | 0 => []
  | k + 1 => S.get i :: newSt S (i + 1) k
/-- Behind a call: its result; blocks that nobody can reach any more are dropped. -/
def endM (P : Program) (E : Env) (fn : Func) (S : St) (l : Leaf) : CT :=
  match resV P E.bs l.fs l.fr l.S fn.results.toList with
  | some v =>
    match l.ex with
    | .exit _ => .fail 132
    | _ =>
      let u := pickSt S l.S l.d
      .leaf { mv := v, new := if v.refs || u.any (fun p => p.2.refs) then newSt l.S S.n (l.S.n - S.n) else [], upd := u } l.fs
  | none => .fail 133
/-- Two ways of a call become one, if its value alone parts them. -/
def brC (keep : Bool) (fs : Facts) (e : E) (t f : CT) : CT :=
  match keep, t, f with
  | false, .leaf ⟨a, [], []⟩ ga, .leaf ⟨b, [], []⟩ gb => match joinV e a b with | .unk => .br fs e (.leaf ⟨a, [], []⟩ ga) (.leaf ⟨b, [], []⟩ gb) | m => .leaf { mv := m } fs
  | _, t, f => .br fs e t f
def toCT (P : Program) (E : Env) (fn : Func) (S : St) : Tr → CT
  | .leaf l => endM P E fn S l
  | .br fs e t f => brC E.keep fs e (toCT P E fn S t) (toCT P E fn S f)
  | .dead => .dead
  | .fail s => .fail s
/-- A call's first frame. -/
def startL (fn : Func) (args : List MV) (S : St) (fs : Facts) : Leaf :=
  match Nat.ble (args.length + fn.ntmps) 4000 with
  | true => ⟨.normal, args.length + (fn.ntmps - args.length), Fr.start 0 args .e, S, fs, []⟩
  | false => ⟨.normal, 0, .e, S, fs, []⟩
def callIn (P : Program) (E : Env) (ev : Code → Leaf → Tr) : Callee := fun f args S fs =>
  match lookup f E.fns with
  | some fn =>
    match fn.body with
    | some c => toCT P E fn S (ev c (startL fn args S fs))
    | none => .fail 134
  | none => E.sum f args S fs
def ev (P : Program) (E : Env) : Nat → Code → Leaf → Tr
  | 0, _, _ => .fail 141
  | n + 1, c, l =>
    match c with
    | .skip => .leaf l
    | .region _ ops draw => region P E.bs (callIn P E (ev P E n)) E.keep draw ops.toList l
    | .seq x y => (ev P E n x l).bind fun l => match l.ex with | .normal => ev P E n y l | _ => .leaf l
    | .cond x t f =>
      match condM E.bs l.fs (evO l.fr x) with
      | some (.inl true) => ev P E n t l
      | some (.inl false) => ev P E n f l
      | some (.inr e) => brM E.keep l.fs e (way E.bs l.fs e true fun g => ev P E n t { l with fs := g }) (way E.bs l.fs e false fun g => ev P E n f { l with fs := g })
      | none => .fail 142
    | .block id c => (ev P E n c l).bind fun l => if l.ex = .exit id then .leaf { l with ex := .normal } else .leaf l
    | .loop c => (ev P E n c l).bind fun l => match l.ex with | .normal => ev P E n (.loop c) l | _ => .leaf l
    | .exit id => .leaf { l with ex := .exit id }
    | .ret => .leaf { l with ex := .ret }
    | .goto k => E.loops k (ev P E n) l
    | _ => .fail 143
/-- A whole function. -/
def fnTr (P : Program) (E : Env) (n : Nat) (fn : Func) (args : List MV) (S : St) (fs : Facts) : Tr :=
  match fn.body with
  | some c => ev P E n c (startL fn args S fs)
  | none => .fail 151
end Sx
end Go.Proofs.Ytigblagodlfedaa
