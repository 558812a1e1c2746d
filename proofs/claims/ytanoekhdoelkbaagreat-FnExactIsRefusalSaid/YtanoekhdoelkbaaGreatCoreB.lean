/- The abstract meaning of each operation of a Go function, as a condition on what follows. -/
import Derived.Test.YtanoekhdoelkbaaGreatCoreA
import Derived.Laws.AppendOwn
import Derived.Laws.MakeOwn
import Derived.Laws.Cells
import Derived.Laws.CopyRow
import Derived.IntWalk
set_option linter.unusedSimpArgs false
set_option linter.unusedVariables false
namespace Go.Proofs.Qqz
open Go

/-- What is used of a type. -/
structure TI where
  agg : Bool
  cells : Nat
  bytes : Nat
  zero : List Value
  slice : Option Nat
  fields : List (Nat × Nat)
  kind : Option IntKind
  str : Bool
  deriving Inhabited

def tiOf (P : Program) (t : TypeId) : Option TI :=
  match P.info? t, P.underlying t with
  | some inf, some d =>
    match inf.zero with
    | some z => some
      { agg := match d with | .struct _ => true | .array _ _ => true | _ => false
        cells := inf.size, bytes := inf.bytes, zero := z.cells.toList
        slice := match d with | .slice e => some e | _ => none
        fields := match d with | .struct fs => fs.toList.map fun f => (f.offset, f.type) | _ => []
        kind := match d with | .int k => some k | _ => none
        str := match d with | .string => true | _ => false }
    | none => none
  | _, _ => none

/-- The information of a type, handed on. -/
def withTI (P : Program) (t : TypeId) (K : TI → Prop) : Prop :=
  match tiOf P t with
  | some i => K i
  | none => False

theorem withTI_of {P : Program} {t : TypeId} {i : TI} (h : tiOf P t = some i) (K : TI → Prop) : withTI P t K = K i := by simp [withTI, h]

abbrev Env := Nat → AV
def upd (e : Env) (i : Nat) (v : AV) : Env := fun j => if j = i then v else e j
def putE (e : Env) (d : Option Tmp) (v : AV) : Env :=
  match d with
  | some i => upd e i v
  | none => e
theorem upd_apply (e : Env) (i : Nat) (v : AV) (j : Nat) : upd e i v j = if j = i then v else e j := rfl
def initE (l : List AV) : Env := fun i => l.getD i .any

def evA (e : Env) : Operand → AV
  | .tmp t => e t
  | .const v => .lit v
  | .global _ => .any
  | .func f => .clo f []

def AV.isCell : AV → Bool
  | .lit (.agg _) => false
  | .lit (.tuple _) => false
  | .agg _ => false
  | .tup _ => false
  | .any => false
  | _ => true

/-- The cells that a value fills. -/
def avCells : AV → Option (List AV)
  | .agg l => some l
  | .lit (.agg cs) => some (cs.toList.map .lit)
  | .any => none
  | a => some [a]

def splice (l : List AV) (c : Nat) (xs : List AV) : List AV := l.take c ++ xs ++ l.drop (c + xs.length)

abbrev KT := AV → Env → St → Prop

def pickA (c a b : AV) (e : Env) (σ : St) (K : KT) : Prop :=
  match c with
  | .lit (.bool t) => (t = true → K a e σ) ∧ (t = false → K b e σ)
  | _ => False

def loadRow (i : TI) (row : List AV) (c : Nat) (e : Env) (σ : St) (K : KT) : Prop :=
  if i.agg then c + i.cells ≤ row.length ∧ K (.agg ((row.drop c).take i.cells)) e σ else c < row.length ∧ K (row.getD c .any) e σ

def loadA (P : Program) (t : TypeId) (x : AV) (e : Env) (σ : St) (K : KT) : Prop :=
  withTI P t fun i =>
    match x with
    | .pa row c => loadRow i row c e σ K
    | .ptr id r c =>
      match σ.h id with
      | .flat _ rows => r < rows.length ∧ loadRow i (rows.getD r []) c e σ K
      | .deep _ rows => r < rows.length ∧ loadRow i (rows.getD r []) c e σ K
      | .dead => False
    | _ => False

def storeA (P : Program) (t : TypeId) (x v : AV) (e : Env) (σ : St) (K : KT) : Prop :=
  withTI P t fun i =>
    match avCells v, x with
    | some cs, .ptr id r c =>
      cs.length = i.cells ∧ (∀ a ∈ cs, a.isCell = true) ∧
      match σ.h id with
      | .flat wd rows => (∀ a ∈ cs, Flat a) ∧ r < rows.length ∧ c + cs.length ≤ wd ∧ K .any e (σ.put id (.flat wd (rows.set r (splice (rows.getD r []) c cs))))
      | .deep wd rows => r < rows.length ∧ c + cs.length ≤ wd ∧ K .any e (σ.put id (.deep wd (rows.set r (splice (rows.getD r []) c cs))))
      | .dead => False
    | _, _ => False

def allocA (P : Program) (t : TypeId) (e : Env) (σ : St) (K : KT) : Prop :=
  withTI P t fun i => K (.ptr σ.n 0 0) e (σ.new (.deep i.zero.length [i.zero.map .lit]))

def boxA (x : AV) (e : Env) (σ : St) (K : KT) : Prop :=
  match avCells x with
  | some cs => K (.ptr σ.n 0 0) e (σ.new (.deep cs.length [cs]))
  | none => False

def makeI (P : Program) (sl : Option Nat) (n m : Int) (e : Env) (σ : St) (K : KT) : Prop :=
  match sl with
  | some el => withTI P el fun j => 0 ≤ n ∧ n ≤ m ∧ m ≤ 4294967296 ∧ j.bytes ≤ 4096 ∧ 0 < j.cells ∧ j.zero.length = j.cells ∧
      K (.os σ.n 0 n.toNat) e (σ.new (.flat j.cells (List.replicate n.toNat (j.zero.map .lit))))
  | none => False

def makeA (P : Program) (t : TypeId) (l c : AV) (e : Env) (σ : St) (K : KT) : Prop :=
  match l, c with
  | .lit (.int _ n), .lit (.int _ m) => withTI P t fun i => makeI P i.slice n m e σ K
  | _, _ => False

/-- An optional bound of a slice expression. -/
def bndA (d : Int) : Option AV → (Int → Prop) → Prop
  | none, K => K d
  | some (.lit (.int _ n)), K => K n
  | _, _ => False

def sliceOsA (P : Program) (el : TypeId) (id off len : Nat) (l h : Int) (e : Env) (σ : St) (K : KT) : Prop :=
  0 ≤ l ∧ l ≤ h ∧ h ≤ len ∧
    (match σ.h id with
    | .flat wd _ => withTI P el fun j => j.cells = wd
    | .deep wd _ => withTI P el fun j => j.cells = wd
    | .dead => False) ∧
    K (.os id (off + l.toNat) (h - l).toNat) e σ

def slicePsA (P : Program) (el : TypeId) (rows : List (List AV)) (l h : Int) (hi mx : Option AV) (e : Env) (σ : St) (K : KT) : Prop :=
  0 ≤ l ∧ l ≤ h ∧ h ≤ rows.length ∧
    match mx with
    | none => K (.ps ((rows.drop l.toNat).take (h - l).toNat)) e σ
    | some m => hi.isSome = true ∧ bndA 0 (some m) fun m => m = l ∧ h = l ∧ withTI P el fun j => K (.os σ.n 0 0) e (σ.new (.flat j.cells []))

def sliceA (P : Program) (t : TypeId) (x : AV) (lo hi mx : Option AV) (e : Env) (σ : St) (K : KT) : Prop :=
  withTI P t fun i =>
    match x with
    | .os id off len =>
      match i.slice with
      | some el => mx = none ∧ bndA 0 lo fun l => bndA len hi fun h => sliceOsA P el id off len l h e σ K
      | none => False
    | .ps rows =>
      match i.slice with
      | some el => (withTI P el fun j => ∀ row ∈ rows, j.cells = row.length) ∧ bndA 0 lo fun l => bndA rows.length hi fun h => slicePsA P el rows l h hi mx e σ K
      | none => False
    | .lit (.string s) => i.str = true ∧ mx = none ∧
      bndA 0 lo fun l => bndA s.size hi fun h => 0 ≤ l ∧ l ≤ h ∧ h ≤ s.size ∧ K (.lit (.string (s.extract l.toNat h.toNat))) e σ
    | _ => False

def fieldAddrA (P : Program) (t : TypeId) (x : AV) (f : Nat) (e : Env) (σ : St) (K : KT) : Prop :=
  withTI P t fun i =>
    match i.fields[f]? with
    | some (off, ty) => (withTI P ty fun j => 0 < j.cells) ∧
      match x with
      | .pa row c => K (.pa row (c + off)) e σ
      | .ptr id r c => K (.ptr id r (c + off)) e σ
      | _ => False
    | none => False

def fieldA (P : Program) (t : TypeId) (x : AV) (f : Nat) (e : Env) (σ : St) (K : KT) : Prop :=
  withTI P t fun i =>
    match i.fields[f]? with
    | some (off, ty) => withTI P ty fun j =>
      match x with
      | .agg l => loadRow j l off e σ K
      | _ => False
    | none => False

def indexAddrA (P : Program) (t : TypeId) (x ix : AV) (e : Env) (σ : St) (K : KT) : Prop :=
  withTI P t fun i =>
    match i.slice, ix with
    | some el, .lit (.int _ n) => withTI P el fun j => 0 ≤ n ∧
      match x with
      | .os id off len => n < len ∧
        (match σ.h id with
        | .flat wd _ => wd = j.cells
        | .deep wd _ => wd = j.cells
        | .dead => False) ∧ K (.ptr id (off + n.toNat) 0) e σ
      | .ps rows => n < rows.length ∧ (rows.getD n.toNat []).length = j.cells ∧ K (.pa (rows.getD n.toNat []) 0) e σ
      | _ => False
    | _, _ => False

def indexA (P : Program) (t : TypeId) (x ix : AV) (e : Env) (σ : St) (K : KT) : Prop :=
  withTI P t fun i =>
    match x, ix with
    | .lit (.string s), .lit (.int _ n) => i.str = true ∧ 0 ≤ n ∧ n < s.size ∧ K (.lit (.int .u8 ((s.data.toList.getD n.toNat 0).toNat : Int))) e σ
    | _, _ => False

def lenA (P : Program) (t : TypeId) (x : AV) (e : Env) (σ : St) (K : KT) : Prop :=
  withTI P t fun i =>
    match x with
    | .os _ _ len => i.slice.isSome ∧ K (.lit (.int .i64 len)) e σ
    | .ps rows => i.slice.isSome ∧ K (.lit (.int .i64 rows.length)) e σ
    | .lit (.slice none 0 0) => i.slice.isSome ∧ K (.lit (.int .i64 0)) e σ
    | .lit (.string s) => i.str = true ∧ K (.lit (.int .i64 s.size)) e σ
    | _ => False

def extractA (x : AV) (i : Nat) (e : Env) (σ : St) (K : KT) : Prop :=
  match x with
  | .tup l => i < l.length ∧ K (l.getD i .any) e σ
  | _ => False

def intA (op : BinOp) (k : IntKind) (x y : Int) (e : Env) (σ : St) (K : KT) : Prop :=
  match op with
  | .add => K (.lit (.int k (k.wrap (x + y)))) e σ
  | .sub => K (.lit (.int k (k.wrap (x - y)))) e σ
  | .mul => K (.lit (.int k (k.wrap (x * y)))) e σ
  | .quo => y ≠ 0 ∧ K (.lit (.int k (k.wrap (x.tdiv y)))) e σ
  | .rem => y ≠ 0 ∧ K (.lit (.int k (x.tmod y))) e σ
  | .eql => K (.lit (.bool (decide (x = y)))) e σ
  | .neq => K (.lit (.bool (!decide (x = y)))) e σ
  | .lss => K (.lit (.bool (decide (x < y)))) e σ
  | .leq => K (.lit (.bool (decide (x ≤ y)))) e σ
  | .gtr => K (.lit (.bool (decide (y < x)))) e σ
  | .geq => K (.lit (.bool (decide (y ≤ x)))) e σ
  | _ => False

/-- Comparison with nil and of strings and bools. -/
def eqA (P : Program) (t : TypeId) (x y : AV) (e : Env) (σ : St) (K : Bool → Prop) : Prop :=
  match x, y with
  | .lit (.string a), .lit (.string b) => K (decide (a.toList = b.toList))
  | .lit (.bool a), .lit (.bool b) => P.underlying t = some .bool ∧ K (a == b)
  | .ps rows, .lit (.slice none 0 0) => (∃ el, P.underlying t = some (.slice el)) ∧ ∀ b : Bool, (b = true → rows = []) → K b
  | .os _ _ len, .lit (.slice none 0 0) => (∃ el, P.underlying t = some (.slice el)) ∧ ∀ b : Bool, (b = true → len = 0) → K b
  | .lit (.slice none 0 0), .lit (.slice none 0 0) => (∃ el, P.underlying t = some (.slice el)) ∧ K true
  | .pa _ _, .lit (.pointer none) => (∃ el, P.underlying t = some (.pointer el)) ∧ K false
  | .ptr _ _ _, .lit (.pointer none) => (∃ el, P.underlying t = some (.pointer el)) ∧ K false
  | .lit (.pointer none), .lit (.pointer none) => (∃ el, P.underlying t = some (.pointer el)) ∧ K true
  | _, _ => False

def binA (P : Program) (op : BinOp) (t : TypeId) (x y : AV) (e : Env) (σ : St) (K : KT) : Prop :=
  match x, y with
  | .lit (.int k a), .lit (.int k' b) => k = k' ∧ intA op k a b e σ K
  | x, y =>
    match op with
    | .eql => eqA P t x y e σ fun b => K (.lit (.bool b)) e σ
    | .neq => eqA P t x y e σ fun b => K (.lit (.bool (!b))) e σ
    | .add =>
      match x, y with
      | .lit (.string a), .lit (.string b) => a.size + b.size ≤ 4611686018427387904 ∧ K (.lit (.string (a ++ b))) e σ
      | _, _ => False
    | _ => False

def unA (op : UnOp) (x : AV) (e : Env) (σ : St) (K : KT) : Prop :=
  match op, x with
  | .neg, .lit (.int k n) => K (.lit (.int k (k.wrap (0 - n)))) e σ
  | .not, .lit (.bool b) => K (.lit (.bool (!b))) e σ
  | _, _ => False

def convA (P : Program) (dst : TypeId) (x : AV) (e : Env) (σ : St) (K : KT) : Prop :=
  match P.underlying dst, x with
  | some (.int k), .lit (.int _ n) => K (.lit (.int k (k.wrap n))) e σ
  | _, _ => False

def nilCheckA (x : AV) (e : Env) (σ : St) (K : KT) : Prop :=
  match x with
  | .pa _ _ => K x e σ
  | .ptr _ _ _ => K x e σ
  | .clo _ _ => K x e σ
  | _ => False

def makeFuncA (fn : Fn) (first : List AV) (caps : List AV) (e : Env) (σ : St) (K : KT) : Prop :=
  match fn, first with
  | .func f, [] => K (.clo f caps) e σ
  | _, _ => False

/-- The parts of a struct laid over its zero cells. -/
def fillA (place : Nat → Option (Nat × Nat)) (cells : List AV) : List (Nat × AV) → Option (List AV)
  | [] => some cells
  | (i, v) :: rest =>
    match place i, avCells v with
    | some (off, size), some cs => if cs.length = size ∧ off + cs.length ≤ cells.length then fillA place (splice cells off cs) rest else none
    | _, _ => none

def buildA (P : Program) (t : TypeId) (parts : List (Nat × AV)) (e : Env) (σ : St) (K : KT) : Prop :=
  withTI P t fun i => i.fields ≠ [] ∧ (∀ f ∈ i.fields, (tiOf P f.2).isSome) ∧
    match fillA (fun k => (i.fields[k]?).bind fun f => (tiOf P f.2).map fun j => (f.1, j.cells)) (i.zero.map .lit) parts with
    | some cs => K (.agg cs) e σ
    | none => False

def buildSliceA (P : Program) (t : TypeId) (n : Nat) (parts : List (Nat × AV)) (e : Env) (σ : St) (K : KT) : Prop :=
  withTI P t fun i =>
    match i.slice with
    | some el => withTI P el fun j => 0 < j.cells ∧ j.zero.length = j.cells ∧ n * j.cells ≤ 1000000 ∧
      match fillA (fun i => if i < n then some (i * j.cells, j.cells) else none) (List.replicate (n * j.cells) .any) parts with
      | some l => (∀ a ∈ l, Flat a) ∧ K (.os σ.n 0 n) e (σ.new (.flat j.cells ((List.range n).map fun i => (l.drop (i * j.cells)).take j.cells)))
      | none => False
    | none => False

/-- What a slice holds, as rows that hold no references. -/
def rowsOf (σ : St) : AV → Option (List (List AV))
  | .ps rows => some rows
  | .lit (.slice none 0 0) => some []
  | .os id off len =>
    match σ.h id with
    | .flat _ rows => if off + len ≤ rows.length then some ((rows.drop off).take len) else none
    | _ => none
  | _ => none

def appendA (P : Program) (t t2 : TypeId) (x y : AV) (e : Env) (σ : St) (K : KT) : Prop :=
  withTI P t fun i => (withTI P t2 fun i2 => i2.slice.isSome = true) ∧
    match i.slice with
    | some el => withTI P el fun j => 0 < j.cells ∧ j.zero.length = j.cells ∧ j.bytes ≤ 4096 ∧
      match rowsOf σ y with
      | some new => (∀ row ∈ new, row.length = j.cells ∧ ∀ a ∈ row, a.isCell = true) ∧
        match x with
        | .lit (.slice none 0 0) => new.length ≤ 4294967296 ∧ K (.os σ.n 0 new.length) e (σ.new (.flat j.cells new))
        | .os id off len =>
          off = 0 ∧ len + new.length ≤ 4294967296 ∧
          match σ.h id with
          | .flat wd rows => wd = j.cells ∧ len ≤ rows.length ∧ (∀ off' len', y ≠ .os id off' len') ∧ K (.os σ.n 0 (len + new.length)) e ((σ.put id .dead).new (.flat wd (rows.take len ++ new)))
          | _ => False
        | .ps [] => True ∧ False
        | _ => False
      | none => False
    | none => False

/-- One round of 'which of two integers'. -/
def minA (x y : AV) (e : Env) (σ : St) (K : KT) : Prop :=
  match x, y with
  | .lit (.int k a), .lit (.int _ b) => K (.lit (.int k (if b < a then b else a))) e σ
  | _, _ => False
def maxA (x y : AV) (e : Env) (σ : St) (K : KT) : Prop :=
  match x, y with
  | .lit (.int k a), .lit (.int _ b) => K (.lit (.int k (if b > a then b else a))) e σ
  | _, _ => False

def copyA (P : Program) (t : TypeId) (x y : AV) (e : Env) (σ : St) (K : KT) : Prop :=
  withTI P t fun i =>
    match i.slice with
    | some el => withTI P el fun j => 0 < j.cells ∧
      match rowsOf σ y, x with
      | some new, .os id off len => (∀ row ∈ new, row.length = j.cells ∧ ∀ a ∈ row, a.isCell = true) ∧ (∀ off' len', y ≠ .os id off' len') ∧
        match σ.h id with
        | .flat wd rows => wd = j.cells ∧ off + len ≤ rows.length ∧ new.length ≤ len ∧
          K (.lit (.int .i64 new.length)) e (σ.put id (.flat wd (rows.take off ++ new ++ rows.drop (off + new.length))))
        | _ => False
      | _, _ => False
    | none => False

def clearA (P : Program) (t : TypeId) (x : AV) (e : Env) (σ : St) (K : KT) : Prop :=
  withTI P t fun i =>
    match i.slice with
    | some el => withTI P el fun j => 0 < j.cells ∧ j.zero.length = j.cells ∧ (∀ a ∈ j.zero, (AV.lit a).isCell = true) ∧
      match x with
      | .os id off len =>
        match σ.h id with
        | .flat wd rows => wd = j.cells ∧ off + len ≤ rows.length ∧
          K (.lit (.tuple #[])) e (σ.put id (.flat wd (rows.take off ++ List.replicate len (j.zero.map .lit) ++ rows.drop (off + len))))
        | _ => False
      | _ => False
    | none => False

end Go.Proofs.Qqz
