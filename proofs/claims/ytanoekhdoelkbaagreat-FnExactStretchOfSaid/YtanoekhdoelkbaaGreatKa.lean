/- Abstract values and states: how the values of a running Go function are read as data, and what a step may change. -/
import Derived.Calls
import Derived.Orders
import Derived.Still
import Derived.Below
import Derived.KernelRfl
import Derived.Laws.AppendOwn
import Derived.Laws.MakeOwn
import Derived.Laws.Cells
import Derived.Laws.CopyRow
import Derived.IntWalk
set_option linter.unusedSimpArgs false
set_option linter.unusedVariables false
namespace Go.Proofs.Qqz
open Go

/-- An abstract value: what a slot of a frame holds, read as data. -/
inductive AV where
  | lit (v : Value)
  | agg (l : List AV)
  | tup (l : List AV)
  | clo (f : FuncId) (l : List AV)
  | ps (rows : List (List AV))
  | pa (row : List AV) (col : Nat)
  | os (id off len : Nat)
  | ptr (id row col : Nat)
  | any
  deriving Inhabited

/-- A block of the call's own: its number, how many rows it can hold, the cells of a row; a virtual one is a nil slice. -/
structure Own where
  blk : Nat
  cap : Nat
  wd : Nat
  virt : Bool
  deriving Inhabited

abbrev Owns := Nat → Own

/-- In world w the value v reads as the abstract value; what is read by value lies in blocks of A. -/
inductive VR (w : World) (A : Nat → Prop) (ι : Owns) : Nat → Value → AV → Prop
  | any {n v} : VR w A ι n v .any
  | lit {n v} : VR w A ι n v (.lit v)
  | agg {n} (vs : List Value) (l : List AV) (hl : vs.length = l.length) (h : ∀ (i : Nat) (v : Value) (a : AV), vs[i]? = some v → l[i]? = some a → VR w A ι n v a) : VR w A ι n (.agg vs.toArray) (.agg l)
  | tup {n} (vs : List Value) (l : List AV) (hl : vs.length = l.length) (h : ∀ (i : Nat) (v : Value) (a : AV), vs[i]? = some v → l[i]? = some a → VR w A ι n v a) : VR w A ι n (.tuple vs.toArray) (.tup l)
  | clo {n f} (vs : List Value) (l : List AV) (hl : vs.length = l.length) (h : ∀ (i : Nat) (v : Value) (a : AV), vs[i]? = some v → l[i]? = some a → VR w A ι n v a) : VR w A ι n (.func (.func f) #[] vs.toArray) (.clo f l)
  | psz {n} {a : Option Addr} : VR w A ι n (.slice a 0 0) (.ps [])
  | ps {n b off cap rows} (wd : Nat) (cv : Nat → Nat → Value) (hcap : rows.length ≤ cap) (hA : A b)
      (hwd : ∀ (i : Nat) (row : List AV), rows[i]? = some row → row.length = wd)
      (hc : ∀ (i : Nat) (row : List AV), rows[i]? = some row → ∀ (j : Nat) (a : AV), row[j]? = some a → w.cell? ⟨b, off + (i * wd + j), none⟩ = some (cv i j))
      (h : ∀ (i : Nat) (row : List AV), rows[i]? = some row → ∀ (j : Nat) (a : AV), row[j]? = some a → VR w A ι 0 (cv i j) a) : VR w A ι n (.slice (some ⟨b, off, none⟩) rows.length cap) (.ps rows)
  | pa {n b off row col} (cv : Nat → Value) (hA : A b)
      (hc : ∀ (j : Nat) (a : AV), row[j]? = some a → w.cell? ⟨b, off + j, none⟩ = some (cv j))
      (h : ∀ (j : Nat) (a : AV), row[j]? = some a → VR w A ι 0 (cv j) a) : VR w A ι n (.pointer (some ⟨b, off + col, none⟩)) (.pa row col)
  | os {n id off len cap} (hn : id < n) (hv : (ι id).virt = false) (hcap : off + cap ≤ (ι id).cap) (hl : len ≤ cap) :
      VR w A ι n (.slice (some ⟨(ι id).blk, off * (ι id).wd, none⟩) len cap) (.os id off len)
  | osz {n id off} {a : Option Addr} (hn : id < n) : VR w A ι n (.slice a 0 0) (.os id off 0)
  | ptr {n id r c} (hn : id < n) (hv : (ι id).virt = false) : VR w A ι n (.pointer (some ⟨(ι id).blk, r * (ι id).wd + c, none⟩)) (.ptr id r c)

theorem VR.mono {w w' : World} {A A' : Nat → Prop} {ι ι' : Owns} {n n' : Nat} {v : Value} {a : AV} (h : VR w A ι n v a) (hn : n ≤ n')
    (hA : ∀ b, A b → A' b) (hw : ∀ b, A b → w'.heap[b]? = w.heap[b]?) (hι : ∀ id, id < n → ι' id = ι id) : VR w' A' ι' n' v a := by
  have hcell : ∀ b o, A b → w'.cell? ⟨b, o, none⟩ = w.cell? ⟨b, o, none⟩ := fun b o hb => by simp [World.cell?, hw b hb]
  induction h generalizing n' with
  | any => exact .any
  | lit => exact .lit
  | agg vs l hl _ ih => exact .agg vs l hl fun i v a h1 h2 => ih i v a h1 h2 hn hι
  | tup vs l hl _ ih => exact .tup vs l hl fun i v a h1 h2 => ih i v a h1 h2 hn hι
  | clo vs l hl _ ih => exact .clo vs l hl fun i v a h1 h2 => ih i v a h1 h2 hn hι
  | psz => exact .psz
  | ps wd cv hcap hA' hwd hc _ ih =>
    exact .ps wd cv hcap (hA _ hA') hwd (fun i row h1 j a h2 => by rw [hcell _ _ hA']; exact hc i row h1 j a h2) fun i row h1 j a h2 => ih i row h1 j a h2 (Nat.le_refl _) (fun _ h => absurd h (Nat.not_lt_zero _))
  | pa cv hA' hc _ ih =>
    exact .pa cv (hA _ hA') (fun j a h2 => by rw [hcell _ _ hA']; exact hc j a h2) fun j a h2 => ih j a h2 (Nat.le_refl _) (fun _ h => absurd h (Nat.not_lt_zero _))
  | @os n id off len cap h1 hv hcap hl =>
    have := hι id h1
    rw [← this]
    exact .os (by omega) (by rw [this]; exact hv) (by rw [this]; exact hcap) hl
  | osz h1 => exact .osz (by omega)
  | @ptr n id r c h1 hv =>
    have := hι id h1
    rw [← this]
    exact .ptr (by omega) (by rw [this]; exact hv)

/-- Holds no reference to a block of the call's own. -/
inductive Flat : AV → Prop
  | any : Flat .any
  | lit {v} : Flat (.lit v)
  | agg {l : List AV} (h : ∀ (i : Nat) (a : AV), l[i]? = some a → Flat a) : Flat (.agg l)
  | tup {l : List AV} (h : ∀ (i : Nat) (a : AV), l[i]? = some a → Flat a) : Flat (.tup l)
  | clo {f} {l : List AV} (h : ∀ (i : Nat) (a : AV), l[i]? = some a → Flat a) : Flat (.clo f l)
  | ps {rows} : Flat (.ps rows)
  | pa {row col} : Flat (.pa row col)

theorem VR.flat {w : World} {A : Nat → Prop} {ι : Owns} {n : Nat} {v : Value} {a : AV} (h : VR w A ι n v a) (hf : Flat a) : VR w A ι 0 v a := by
  induction h with
  | any => exact .any
  | lit => exact .lit
  | agg vs l hl _ ih => cases hf with | agg hf => exact .agg vs l hl fun i v a h1 h2 => ih i v a h1 h2 (hf i a h2)
  | tup vs l hl _ ih => cases hf with | tup hf => exact .tup vs l hl fun i v a h1 h2 => ih i v a h1 h2 (hf i a h2)
  | clo vs l hl _ ih => cases hf with | clo hf => exact .clo vs l hl fun i v a h1 h2 => ih i v a h1 h2 (hf i a h2)
  | psz => exact .psz
  | ps wd cv hcap hA hwd hc h _ => exact .ps wd cv hcap hA hwd hc h
  | pa cv hA hc h _ => exact .pa cv hA hc h
  | os => cases hf
  | osz => cases hf
  | ptr => cases hf

theorem VR.up {w : World} {A : Nat → Prop} {ι : Owns} {n n' : Nat} {v : Value} {a : AV} (h : VR w A ι n v a) (hn : n ≤ n') : VR w A ι n' v a :=
  h.mono hn (fun _ h => h) (fun _ _ => rfl) (fun _ _ => rfl)

/-- A block of the call's own, as data: flat rows hold no references to such blocks; deep ones may. -/
inductive Blk where
  | dead
  | flat (wd : Nat) (rows : List (List AV))
  | deep (wd : Nat) (rows : List (List AV))
  deriving Inhabited

def Blk.live : Blk → Bool
  | .dead => false
  | _ => true

structure St where
  n : Nat
  h : Nat → Blk

def St.empty : St := ⟨0, fun _ => .dead⟩
def St.new (σ : St) (b : Blk) : St := ⟨σ.n + 1, fun k => if k = σ.n then b else σ.h k⟩
def St.put (σ : St) (id : Nat) (b : Blk) : St := ⟨σ.n, fun k => if k = id then b else σ.h k⟩

/-- Rows of a block as the heap holds them. -/
def RowsOk (w : World) (A : Nat → Prop) (ι : Owns) (n : Nat) (o : Own) (wd : Nat) (rows : List (List AV)) : Prop :=
  o.wd = wd ∧ rows.length ≤ o.cap ∧ (∀ (i : Nat) (row : List AV), rows[i]? = some row → row.length = wd) ∧
    if o.virt = true then rows = [] else
      ∃ (arr : Array Value) (el : TypeId), w.heap[o.blk]? = some (.cells arr el (0, 0)) ∧ arr.size = o.cap * wd ∧
        ∀ (i : Nat) (row : List AV), rows[i]? = some row → ∀ (j : Nat) (a : AV), row[j]? = some a → ∃ v, arr[i * wd + j]? = some v ∧ VR w A ι n v a

def BlkOk (w : World) (A : Nat → Prop) (ι : Owns) (n : Nat) (o : Own) : Blk → Prop
  | .dead => True
  | .flat wd rows => RowsOk w A ι 0 o wd rows
  | .deep wd rows => RowsOk w A ι n o wd rows

/-- Block b is one of the call's own and in use. -/
def Live (ι : Owns) (σ : St) (b : Nat) : Prop := ∃ id, id < σ.n ∧ (σ.h id).live = true ∧ (ι id).virt = false ∧ (ι id).blk = b

structure Real (w : World) (A : Nat → Prop) (ι : Owns) (σ : St) : Prop where
  ok : ∀ id, id < σ.n → BlkOk w A ι σ.n (ι id) (σ.h id)
  inj : ∀ i j, i < σ.n → j < σ.n → (σ.h i).live = true → (σ.h j).live = true → (ι i).virt = false → (ι j).virt = false → (ι i).blk = (ι j).blk → i = j
  away : ∀ b, A b → ¬ Live ι σ b
  inA : ∀ b, A b → b < w.heap.size
  dead : ∀ id, σ.n ≤ id → σ.h id = .dead

theorem Real.live_lt {w : World} {A : Nat → Prop} {ι : Owns} {σ : St} (h : Real w A ι σ) {b : Nat} (hb : Live ι σ b) : b < w.heap.size := by
  obtain ⟨id, h1, h2, h3, rfl⟩ := hb
  have := h.ok id h1
  cases hk : σ.h id with
  | dead => simp [hk, Blk.live] at h2
  | flat wd rows =>
    simp only [hk, BlkOk, RowsOk, h3, Bool.false_eq_true, if_false] at this
    obtain ⟨_, _, _, arr, el, hh, _⟩ := this
    exact (Array.getElem?_eq_some_iff.1 hh).1
  | deep wd rows =>
    simp only [hk, BlkOk, RowsOk, h3, Bool.false_eq_true, if_false] at this
    obtain ⟨_, _, _, arr, el, hh, _⟩ := this
    exact (Array.getElem?_eq_some_iff.1 hh).1

/-- What a step may change: blocks of the call's own that were in use, and new ones. -/
structure Ext (w : World) (A : Nat → Prop) (ι : Owns) (σ : St) (w' : World) (A' : Nat → Prop) (ι' : Owns) (σ' : St) : Prop where
  os : w'.os = w.os
  tape : w'.tape = w.tape
  output : w'.output = w.output
  size : w.heap.size ≤ w'.heap.size
  n : σ.n ≤ σ'.n
  io : ∀ id, id < σ.n → ι' id = ι id
  inA : ∀ b, A b → A' b
  keep : ∀ b, b < w.heap.size → ¬ Live ι σ b → w'.heap[b]? = w.heap[b]?
  live : ∀ b, Live ι' σ' b → Live ι σ b ∨ w.heap.size ≤ b
  newA : ∀ b, A' b → A b ∨ Live ι σ b ∨ w.heap.size ≤ b

theorem Ext.refl (w : World) (A : Nat → Prop) (ι : Owns) (σ : St) : Ext w A ι σ w A ι σ :=
  ⟨rfl, rfl, rfl, Nat.le_refl _, Nat.le_refl _, fun _ _ => rfl, fun _ h => h, fun _ _ _ => rfl, fun _ h => .inl h, fun _ h => .inl h⟩

theorem Ext.trans {w A ι σ w1 A1 ι1 σ1 w2 A2 ι2 σ2} (h : Ext w A ι σ w1 A1 ι1 σ1) (k : Ext w1 A1 ι1 σ1 w2 A2 ι2 σ2) : Ext w A ι σ w2 A2 ι2 σ2 where
  os := k.os.trans h.os
  tape := k.tape.trans h.tape
  output := k.output.trans h.output
  size := Nat.le_trans h.size k.size
  n := Nat.le_trans h.n k.n
  io := fun id hid => (k.io id (Nat.lt_of_lt_of_le hid h.n)).trans (h.io id hid)
  inA := fun b hb => k.inA b (h.inA b hb)
  keep := fun b hb hl => (k.keep b (Nat.lt_of_lt_of_le hb h.size) (fun hl' => (h.live b hl').elim hl (fun h' => by omega))).trans (h.keep b hb hl)
  live := fun b hb => (k.live b hb).elim (fun h' => h.live b h') (fun h' => .inr (Nat.le_trans h.size h'))
  newA := fun b hb => (k.newA b hb).elim (fun h' => h.newA b h') (fun h' => h'.elim (fun h' => .inr (h.live b h')) (fun h' => .inr (.inr (Nat.le_trans h.size h'))))

theorem VR.ext {w A ι σ w' A' ι' σ'} {v : Value} {a : AV} (h : VR w A ι σ.n v a) (hr : Real w A ι σ) (he : Ext w A ι σ w' A' ι' σ') : VR w' A' ι' σ'.n v a :=
  h.mono he.n he.inA (fun b hb => he.keep b (hr.inA b hb) (hr.away b hb)) he.io

theorem VR.ext0 {w A ι σ w' A' ι' σ'} {v : Value} {a : AV} (h : VR w A ι 0 v a) (hr : Real w A ι σ) (he : Ext w A ι σ w' A' ι' σ') : VR w' A' ι' 0 v a :=
  h.mono (Nat.le_refl _) he.inA (fun b hb => he.keep b (hr.inA b hb) (hr.away b hb)) (fun _ h => absurd h (Nat.not_lt_zero _))

end Go.Proofs.Qqz
namespace Go.Proofs.Qqz
open Go

/-- What is used of a type. -/
structure TI where
  agg : Bool
  cells : Nat
  bytes : Nat
  zero : List Value
  slice : Option Nat
  fields : List (Nat × Nat)
  kind : Option IntKind
  str : Bool
  deriving Inhabited

def tiOf (P : Program) (t : TypeId) : Option TI :=
  match P.info? t, P.underlying t with
  | some inf, some d =>
    match inf.zero with
    | some z => some
      { agg := match d with | .struct _ => true | .array _ _ => true | _ => false
        cells := inf.size, bytes := inf.bytes, zero := z.cells.toList
        slice := match d with | .slice e => some e | _ => none
        fields := match d with | .struct fs => fs.toList.map fun f => (f.offset, f.type) | _ => []
        kind := match d with | .int k => some k | _ => none
        str := match d with | .string => true | _ => false }
    | none => none
  | _, _ => none

/-- The information of a type, handed on. -/
def withTI (P : Program) (t : TypeId) (K : TI → Prop) : Prop :=
  match tiOf P t with
  | some i => K i
  | none => False

theorem withTI_of {P : Program} {t : TypeId} {i : TI} (h : tiOf P t = some i) (K : TI → Prop) : withTI P t K = K i := by simp [withTI, h]

abbrev Env := Nat → AV
def upd (e : Env) (i : Nat) (v : AV) : Env := fun j => if j = i then v else e j
def putE (e : Env) (d : Option Tmp) (v : AV) : Env :=
  match d with
  | some i => upd e i v
  | none => e
theorem upd_apply (e : Env) (i : Nat) (v : AV) (j : Nat) : upd e i v j = if j = i then v else e j := rfl
def initE (l : List AV) : Env := fun i => l.getD i .any

def evA (e : Env) : Operand → AV
  | .tmp t => e t
  | .const v => .lit v
  | .global _ => .any
  | .func f => .clo f []

def AV.isCell : AV → Bool
  | .lit (.agg _) => false
  | .lit (.tuple _) => false
  | .agg _ => false
  | .tup _ => false
  | .any => false
  | _ => true

/-- The cells that a value fills. -/
def avCells : AV → Option (List AV)
  | .agg l => some l
  | .lit (.agg cs) => some (cs.toList.map .lit)
  | .any => none
  | a => some [a]

def splice (l : List AV) (c : Nat) (xs : List AV) : List AV := l.take c ++ xs ++ l.drop (c + xs.length)

abbrev KT := AV → Env → St → Prop

def pickA (c a b : AV) (e : Env) (σ : St) (K : KT) : Prop :=
  match c with
  | .lit (.bool t) => (t = true → K a e σ) ∧ (t = false → K b e σ)
  | _ => False

def loadRow (i : TI) (row : List AV) (c : Nat) (e : Env) (σ : St) (K : KT) : Prop :=
  if i.agg then c + i.cells ≤ row.length ∧ K (.agg ((row.drop c).take i.cells)) e σ else c < row.length ∧ K (row.getD c .any) e σ

def loadA (P : Program) (t : TypeId) (x : AV) (e : Env) (σ : St) (K : KT) : Prop :=
  withTI P t fun i =>
    match x with
    | .pa row c => loadRow i row c e σ K
    | .ptr id r c =>
      match σ.h id with
      | .flat _ rows => r < rows.length ∧ loadRow i (rows.getD r []) c e σ K
      | .deep _ rows => r < rows.length ∧ loadRow i (rows.getD r []) c e σ K
      | .dead => False
    | _ => False

def storeA (P : Program) (t : TypeId) (x v : AV) (e : Env) (σ : St) (K : KT) : Prop :=
  withTI P t fun i =>
    match avCells v, x with
    | some cs, .ptr id r c =>
      cs.length = i.cells ∧ (∀ a ∈ cs, a.isCell = true) ∧
      match σ.h id with
      | .flat wd rows => (∀ a ∈ cs, Flat a) ∧ r < rows.length ∧ c + cs.length ≤ wd ∧ K .any e (σ.put id (.flat wd (rows.set r (splice (rows.getD r []) c cs))))
      | .deep wd rows => r < rows.length ∧ c + cs.length ≤ wd ∧ K .any e (σ.put id (.deep wd (rows.set r (splice (rows.getD r []) c cs))))
      | .dead => False
    | _, _ => False

def allocA (P : Program) (t : TypeId) (e : Env) (σ : St) (K : KT) : Prop :=
  withTI P t fun i => K (.ptr σ.n 0 0) e (σ.new (.deep i.zero.length [i.zero.map .lit]))

def boxA (x : AV) (e : Env) (σ : St) (K : KT) : Prop :=
  match avCells x with
  | some cs => K (.ptr σ.n 0 0) e (σ.new (.deep cs.length [cs]))
  | none => False

def makeI (P : Program) (sl : Option Nat) (n m : Int) (e : Env) (σ : St) (K : KT) : Prop :=
  match sl with
  | some el => withTI P el fun j => 0 ≤ n ∧ n ≤ m ∧ m ≤ 4294967296 ∧ j.bytes ≤ 4096 ∧ 0 < j.cells ∧ j.zero.length = j.cells ∧
      K (.os σ.n 0 n.toNat) e (σ.new (.flat j.cells (List.replicate n.toNat (j.zero.map .lit))))
  | none => False

def makeA (P : Program) (t : TypeId) (l c : AV) (e : Env) (σ : St) (K : KT) : Prop :=
  match l, c with
  | .lit (.int _ n), .lit (.int _ m) => withTI P t fun i => makeI P i.slice n m e σ K
  | _, _ => False

/-- An optional bound of a slice expression. -/
def bndA (d : Int) : Option AV → (Int → Prop) → Prop
  | none, K => K d
  | some (.lit (.int _ n)), K => K n
  | _, _ => False

def sliceOsA (P : Program) (el : TypeId) (id off len : Nat) (l h : Int) (e : Env) (σ : St) (K : KT) : Prop :=
  0 ≤ l ∧ l ≤ h ∧ h ≤ len ∧
    (match σ.h id with
    | .flat wd _ => withTI P el fun j => j.cells = wd
    | .deep wd _ => withTI P el fun j => j.cells = wd
    | .dead => False) ∧
    K (.os id (off + l.toNat) (h - l).toNat) e σ

def slicePsA (P : Program) (el : TypeId) (rows : List (List AV)) (l h : Int) (hi mx : Option AV) (e : Env) (σ : St) (K : KT) : Prop :=
  0 ≤ l ∧ l ≤ h ∧ h ≤ rows.length ∧
    match mx with
    | none => K (.ps ((rows.drop l.toNat).take (h - l).toNat)) e σ
    | some m => hi.isSome = true ∧ bndA 0 (some m) fun m => m = l ∧ h = l ∧ withTI P el fun j => K (.os σ.n 0 0) e (σ.new (.flat j.cells []))

def sliceA (P : Program) (t : TypeId) (x : AV) (lo hi mx : Option AV) (e : Env) (σ : St) (K : KT) : Prop :=
  withTI P t fun i =>
    match x with
    | .os id off len =>
      match i.slice with
      | some el => mx = none ∧ bndA 0 lo fun l => bndA len hi fun h => sliceOsA P el id off len l h e σ K
      | none => False
    | .ps rows =>
      match i.slice with
      | some el => (withTI P el fun j => ∀ row ∈ rows, j.cells = row.length) ∧ bndA 0 lo fun l => bndA rows.length hi fun h => slicePsA P el rows l h hi mx e σ K
      | none => False
    | .lit (.string s) => i.str = true ∧ mx = none ∧
      bndA 0 lo fun l => bndA s.size hi fun h => 0 ≤ l ∧ l ≤ h ∧ h ≤ s.size ∧ K (.lit (.string (s.extract l.toNat h.toNat))) e σ
    | _ => False

def fieldAddrA (P : Program) (t : TypeId) (x : AV) (f : Nat) (e : Env) (σ : St) (K : KT) : Prop :=
  withTI P t fun i =>
    match i.fields[f]? with
    | some (off, ty) => (withTI P ty fun j => 0 < j.cells) ∧
      match x with
      | .pa row c => K (.pa row (c + off)) e σ
      | .ptr id r c => K (.ptr id r (c + off)) e σ
      | _ => False
    | none => False

def fieldA (P : Program) (t : TypeId) (x : AV) (f : Nat) (e : Env) (σ : St) (K : KT) : Prop :=
  withTI P t fun i =>
    match i.fields[f]? with
    | some (off, ty) => withTI P ty fun j =>
      match x with
      | .agg l => loadRow j l off e σ K
      | _ => False
    | none => False

def indexAddrA (P : Program) (t : TypeId) (x ix : AV) (e : Env) (σ : St) (K : KT) : Prop :=
  withTI P t fun i =>
    match i.slice, ix with
    | some el, .lit (.int _ n) => withTI P el fun j => 0 ≤ n ∧
      match x with
      | .os id off len => n < len ∧
        (match σ.h id with
        | .flat wd _ => wd = j.cells
        | .deep wd _ => wd = j.cells
        | .dead => False) ∧ K (.ptr id (off + n.toNat) 0) e σ
      | .ps rows => n < rows.length ∧ (rows.getD n.toNat []).length = j.cells ∧ K (.pa (rows.getD n.toNat []) 0) e σ
      | _ => False
    | _, _ => False

def indexA (P : Program) (t : TypeId) (x ix : AV) (e : Env) (σ : St) (K : KT) : Prop :=
  withTI P t fun i =>
    match x, ix with
    | .lit (.string s), .lit (.int _ n) => i.str = true ∧ 0 ≤ n ∧ n < s.size ∧ K (.lit (.int .u8 ((s.data.toList.getD n.toNat 0).toNat : Int))) e σ
    | _, _ => False

def lenA (P : Program) (t : TypeId) (x : AV) (e : Env) (σ : St) (K : KT) : Prop :=
  withTI P t fun i =>
    match x with
    | .os _ _ len => i.slice.isSome ∧ K (.lit (.int .i64 len)) e σ
    | .ps rows => i.slice.isSome ∧ K (.lit (.int .i64 rows.length)) e σ
    | .lit (.slice none 0 0) => i.slice.isSome ∧ K (.lit (.int .i64 0)) e σ
    | .lit (.string s) => i.str = true ∧ K (.lit (.int .i64 s.size)) e σ
    | _ => False

def extractA (x : AV) (i : Nat) (e : Env) (σ : St) (K : KT) : Prop :=
  match x with
  | .tup l => i < l.length ∧ K (l.getD i .any) e σ
  | _ => False

def intA (op : BinOp) (k : IntKind) (x y : Int) (e : Env) (σ : St) (K : KT) : Prop :=
  match op with
  | .add => K (.lit (.int k (k.wrap (x + y)))) e σ
  | .sub => K (.lit (.int k (k.wrap (x - y)))) e σ
  | .mul => K (.lit (.int k (k.wrap (x * y)))) e σ
  | .quo => y ≠ 0 ∧ K (.lit (.int k (k.wrap (x.tdiv y)))) e σ
  | .rem => y ≠ 0 ∧ K (.lit (.int k (x.tmod y))) e σ
  | .eql => K (.lit (.bool (decide (x = y)))) e σ
  | .neq => K (.lit (.bool (!decide (x = y)))) e σ
  | .lss => K (.lit (.bool (decide (x < y)))) e σ
  | .leq => K (.lit (.bool (decide (x ≤ y)))) e σ
  | .gtr => K (.lit (.bool (decide (y < x)))) e σ
  | .geq => K (.lit (.bool (decide (y ≤ x)))) e σ
  | _ => False

/-- Comparison with nil and of strings and bools. -/
def eqA (P : Program) (t : TypeId) (x y : AV) (e : Env) (σ : St) (K : Bool → Prop) : Prop :=
  match x, y with
  | .lit (.string a), .lit (.string b) => K (decide (a.toList = b.toList))
  | .lit (.bool a), .lit (.bool b) => P.underlying t = some .bool ∧ K (a == b)
  | .ps rows, .lit (.slice none 0 0) => (∃ el, P.underlying t = some (.slice el)) ∧ ∀ b : Bool, (b = true → rows = []) → K b
  | .os _ _ len, .lit (.slice none 0 0) => (∃ el, P.underlying t = some (.slice el)) ∧ ∀ b : Bool, (b = true → len = 0) → K b
  | .lit (.slice none 0 0), .lit (.slice none 0 0) => (∃ el, P.underlying t = some (.slice el)) ∧ K true
  | .pa _ _, .lit (.pointer none) => (∃ el, P.underlying t = some (.pointer el)) ∧ K false
  | .ptr _ _ _, .lit (.pointer none) => (∃ el, P.underlying t = some (.pointer el)) ∧ K false
  | .lit (.pointer none), .lit (.pointer none) => (∃ el, P.underlying t = some (.pointer el)) ∧ K true
  | _, _ => False

def binA (P : Program) (op : BinOp) (t : TypeId) (x y : AV) (e : Env) (σ : St) (K : KT) : Prop :=
  match x, y with
  | .lit (.int k a), .lit (.int k' b) => k = k' ∧ intA op k a b e σ K
  | x, y =>
    match op with
    | .eql => eqA P t x y e σ fun b => K (.lit (.bool b)) e σ
    | .neq => eqA P t x y e σ fun b => K (.lit (.bool (!b))) e σ
    | .add =>
      match x, y with
      | .lit (.string a), .lit (.string b) => a.size + b.size ≤ 4611686018427387904 ∧ K (.lit (.string (a ++ b))) e σ
      | _, _ => False
    | _ => False

def unA (op : UnOp) (x : AV) (e : Env) (σ : St) (K : KT) : Prop :=
  match op, x with
  | .neg, .lit (.int k n) => K (.lit (.int k (k.wrap (0 - n)))) e σ
  | .not, .lit (.bool b) => K (.lit (.bool (!b))) e σ
  | _, _ => False

def convA (P : Program) (dst : TypeId) (x : AV) (e : Env) (σ : St) (K : KT) : Prop :=
  match P.underlying dst, x with
  | some (.int k), .lit (.int _ n) => K (.lit (.int k (k.wrap n))) e σ
  | _, _ => False

def nilCheckA (x : AV) (e : Env) (σ : St) (K : KT) : Prop :=
  match x with
  | .pa _ _ => K x e σ
  | .ptr _ _ _ => K x e σ
  | .clo _ _ => K x e σ
  | _ => False

def makeFuncA (fn : Fn) (first : List AV) (caps : List AV) (e : Env) (σ : St) (K : KT) : Prop :=
  match fn, first with
  | .func f, [] => K (.clo f caps) e σ
  | _, _ => False

/-- The parts of a struct laid over its zero cells. -/
def fillA (place : Nat → Option (Nat × Nat)) (cells : List AV) : List (Nat × AV) → Option (List AV)
  | [] => some cells
  | (i, v) :: rest =>
    match place i, avCells v with
    | some (off, size), some cs => if cs.length = size ∧ off + cs.length ≤ cells.length then fillA place (splice cells off cs) rest else none
    | _, _ => none

def buildA (P : Program) (t : TypeId) (parts : List (Nat × AV)) (e : Env) (σ : St) (K : KT) : Prop :=
  withTI P t fun i => i.fields ≠ [] ∧ (∀ f ∈ i.fields, (tiOf P f.2).isSome) ∧
    match fillA (fun k => (i.fields[k]?).bind fun f => (tiOf P f.2).map fun j => (f.1, j.cells)) (i.zero.map .lit) parts with
    | some cs => K (.agg cs) e σ
    | none => False

def buildSliceA (P : Program) (t : TypeId) (n : Nat) (parts : List (Nat × AV)) (e : Env) (σ : St) (K : KT) : Prop :=
  withTI P t fun i =>
    match i.slice with
    | some el => withTI P el fun j => 0 < j.cells ∧ j.zero.length = j.cells ∧ n * j.cells ≤ 1000000 ∧
      match fillA (fun i => if i < n then some (i * j.cells, j.cells) else none) (List.replicate (n * j.cells) .any) parts with
      | some l => (∀ a ∈ l, Flat a) ∧ K (.os σ.n 0 n) e (σ.new (.flat j.cells ((List.range n).map fun i => (l.drop (i * j.cells)).take j.cells)))
      | none => False
    | none => False

/-- What a slice holds, as rows that hold no references. -/
def rowsOf (σ : St) : AV → Option (List (List AV))
  | .ps rows => some rows
  | .lit (.slice none 0 0) => some []
  | .os id off len =>
    match σ.h id with
    | .flat _ rows => if off + len ≤ rows.length then some ((rows.drop off).take len) else none
    | _ => none
  | _ => none

def appendA (P : Program) (t t2 : TypeId) (x y : AV) (e : Env) (σ : St) (K : KT) : Prop :=
  withTI P t fun i => (withTI P t2 fun i2 => i2.slice.isSome = true) ∧
    match i.slice with
    | some el => withTI P el fun j => 0 < j.cells ∧ j.zero.length = j.cells ∧ j.bytes ≤ 4096 ∧
      match rowsOf σ y with
      | some new => (∀ row ∈ new, row.length = j.cells ∧ ∀ a ∈ row, a.isCell = true) ∧
        match x with
        | .lit (.slice none 0 0) => new.length ≤ 4294967296 ∧ K (.os σ.n 0 new.length) e (σ.new (.flat j.cells new))
        | .os id off len =>
          off = 0 ∧ len + new.length ≤ 4294967296 ∧
          match σ.h id with
          | .flat wd rows => wd = j.cells ∧ len ≤ rows.length ∧ (∀ off' len', y ≠ .os id off' len') ∧ K (.os σ.n 0 (len + new.length)) e ((σ.put id .dead).new (.flat wd (rows.take len ++ new)))
          | _ => False
        | .ps [] => True ∧ False
        | _ => False
      | none => False
    | none => False

/-- One round of 'which of two integers'. -/
def minA (x y : AV) (e : Env) (σ : St) (K : KT) : Prop :=
  match x, y with
  | .lit (.int k a), .lit (.int _ b) => K (.lit (.int k (if b < a then b else a))) e σ
  | _, _ => False
def maxA (x y : AV) (e : Env) (σ : St) (K : KT) : Prop :=
  match x, y with
  | .lit (.int k a), .lit (.int _ b) => K (.lit (.int k (if b > a then b else a))) e σ
  | _, _ => False

def copyA (P : Program) (t : TypeId) (x y : AV) (e : Env) (σ : St) (K : KT) : Prop :=
  withTI P t fun i =>
    match i.slice with
    | some el => withTI P el fun j => 0 < j.cells ∧
      match rowsOf σ y, x with
      | some new, .os id off len => (∀ row ∈ new, row.length = j.cells ∧ ∀ a ∈ row, a.isCell = true) ∧ (∀ off' len', y ≠ .os id off' len') ∧
        match σ.h id with
        | .flat wd rows => wd = j.cells ∧ off + len ≤ rows.length ∧ new.length ≤ len ∧
          K (.lit (.int .i64 new.length)) e (σ.put id (.flat wd (rows.take off ++ new ++ rows.drop (off + new.length))))
        | _ => False
      | _, _ => False
    | none => False

def clearA (P : Program) (t : TypeId) (x : AV) (e : Env) (σ : St) (K : KT) : Prop :=
  withTI P t fun i =>
    match i.slice with
    | some el => withTI P el fun j => 0 < j.cells ∧ j.zero.length = j.cells ∧ (∀ a ∈ j.zero, (AV.lit a).isCell = true) ∧
      match x with
      | .os id off len =>
        match σ.h id with
        | .flat wd rows => wd = j.cells ∧ off + len ≤ rows.length ∧
          K (.lit (.tuple #[])) e (σ.put id (.flat wd (rows.take off ++ List.replicate len (j.zero.map .lit) ++ rows.drop (off + len))))
        | _ => False
      | _ => False
    | none => False

end Go.Proofs.Qqz
namespace Go.Proofs.Qqz
open Go

theorem tiOf_spec {P : Program} {t : TypeId} {i : TI} (h : tiOf P t = some i) : ∃ inf d z, P.info? t = some inf ∧ P.underlying t = some d ∧ inf.zero = some z ∧
    i.agg = (match d with | .struct _ => true | .array _ _ => true | _ => false) ∧ i.cells = inf.size ∧ i.bytes = inf.bytes ∧ i.zero = z.cells.toList ∧
    i.slice = (match d with | .slice e => some e | _ => none) ∧ i.fields = (match d with | .struct fs => fs.toList.map fun f => (f.offset, f.type) | _ => []) ∧
    i.kind = (match d with | .int k => some k | _ => none) ∧ i.str = (match d with | .string => true | _ => false) := by
  unfold tiOf at h
  cases hi : P.info? t with
  | none => simp [hi] at h
  | some inf =>
    cases hd : P.underlying t with
    | none => simp [hi, hd] at h
    | some d =>
      cases hz : inf.zero with
      | none => simp [hi, hd, hz] at h
      | some z =>
        simp only [hi, hd, hz, Option.some.injEq] at h
        subst h
        exact ⟨inf, d, z, rfl, rfl, hz, rfl, rfl, rfl, rfl, rfl, rfl, rfl, rfl⟩

theorem withTI_spec {P : Program} {t : TypeId} {K : TI → Prop} (h : withTI P t K) : ∃ i, tiOf P t = some i ∧ K i := by
  unfold withTI at h
  split at h
  · exact ⟨_, by assumption, h⟩
  · exact h.elim

theorem slice_of {P : Program} {t : TypeId} {i : TI} {el : TypeId} (h : tiOf P t = some i) (hs : i.slice = some el) : P.underlying t = some (.slice el) := by
  obtain ⟨inf, d, z, _, hd, _, _, _, _, _, h2, _⟩ := tiOf_spec h
  rw [hs] at h2
  cases d <;> simp at h2
  subst h2
  exact hd

theorem run_sizeOf' {P : Program} {t : TypeId} {i : TI} (h : tiOf P t = some i) (w : World) : (sizeOf t).run P w = .ok i.cells w := by
  obtain ⟨inf, d, z, hi, _, _, _, hc, _⟩ := tiOf_spec h
  simp [sizeOf, typeInfo, hi, hc]

theorem run_isAgg' {P : Program} {t : TypeId} {i : TI} (h : tiOf P t = some i) (w : World) : (isAgg t).run P w = .ok i.agg w := by
  obtain ⟨inf, d, z, _, hd, _, ha, _⟩ := tiOf_spec h
  unfold isAgg
  rw [Sem.run_bind, run_underlying hd w]
  cases d <;> simp [ha]

theorem run_zero' {P : Program} {t : TypeId} {i : TI} (h : tiOf P t = some i) (w : World) : ∃ z, (zeroValue t).run P w = .ok z w ∧ z.cells.toList = i.zero := by
  obtain ⟨inf, d, z, hi, _, hz, _, _, _, hzc, _⟩ := tiOf_spec h
  exact ⟨z, by simp [zeroValue, typeInfo, hi, hz], hzc.symm⟩

/-- Cells from an offset on, as data. -/
def RowAt (w : World) (A : Nat → Prop) (ι : Owns) (n b o : Nat) (row : List AV) : Prop :=
  ∀ (j : Nat) (a : AV), row[j]? = some a → ∃ v, w.cell? ⟨b, o + j, none⟩ = some v ∧ VR w A ι n v a

theorem RowAt.up {w A ι n n' b o row} (h : RowAt w A ι n b o row) (hn : n ≤ n') : RowAt w A ι n' b o row := fun j a ha =>
  let ⟨v, h1, h2⟩ := h j a ha
  ⟨v, h1, h2.up hn⟩

theorem loadRow_sound {P : Program} {t : TypeId} {i : TI} (hi : tiOf P t = some i) {w A ι n b o} {row : List AV} {c : Nat} {e σ} {K : KT} (hr : RowAt w A ι n b o row) (h : loadRow i row c e σ K) :
    ∃ v av, (loadVar t ⟨b, o + c, none⟩).run P w = .ok v w ∧ VR w A ι n v av ∧ K av e σ := by
  unfold loadRow at h
  by_cases ha : i.agg = true
  · rw [if_pos ha] at h
    obtain ⟨h1, h2⟩ := h
    have hsub : ∀ j a, ((row.drop c).take i.cells)[j]? = some a → j < i.cells ∧ row[c + j]? = some a := by
      intro j a hj
      rw [List.getElem?_take] at hj
      split at hj
      · exact ⟨by assumption, by simpa using hj⟩
      · cases hj
    have hl : ((row.drop c).take i.cells).length = i.cells := by simp; omega
    have hv : ∀ j, j < i.cells → ∃ v, w.cell? ⟨b, o + c + j, none⟩ = some v ∧ ∀ a, ((row.drop c).take i.cells)[j]? = some a → VR w A ι n v a := by
      intro j hj
      have hx : ((row.drop c).take i.cells)[j]? = some (((row.drop c).take i.cells)[j]'(by omega)) := List.getElem?_eq_getElem (by omega)
      obtain ⟨v, h3, h4⟩ := hr _ _ (hsub _ _ hx).2
      rw [← Nat.add_assoc] at h3
      exact ⟨v, h3, fun a ha' => by rw [hx] at ha'; cases ha'; exact h4⟩
    let f : Nat → Value := fun j => if h : j < i.cells then (hv j h).choose else undef
    have hf : ∀ j, (hj : j < i.cells) → w.cell? ⟨b, o + c + j, none⟩ = some (f j) ∧ ∀ a, ((row.drop c).take i.cells)[j]? = some a → VR w A ι n (f j) a := fun j hj => by
      have : f j = (hv j hj).choose := dif_pos hj
      rw [this]; exact (hv j hj).choose_spec
    have hld := run_loadCells (P := P) w ⟨b, o + c, none⟩ i.cells f (fun j hj => by
      have : (⟨b, o + c, none⟩ : Addr).add j = ⟨b, o + c + j, none⟩ := by unfold Addr.add; split <;> simp_all
      rw [this]; exact (hf j hj).1)
    refine ⟨.agg ((List.range i.cells).map f).toArray, _, ?_, .agg _ _ (by simp [hl]) ?_, h2⟩
    · simp [loadVar, run_isAgg' hi, ha, run_sizeOf' hi, hld]
    · intro j v a hj ha'
      have hjl := (hsub _ _ ha').1
      simp [hjl] at hj
      subst hj
      exact (hf j hjl).2 a ha'
  · rw [if_neg ha] at h
    obtain ⟨h1, h2⟩ := h
    have hx : row[c]? = some (row[c]'h1) := List.getElem?_eq_getElem h1
    obtain ⟨v, h3, h4⟩ := hr _ _ hx
    refine ⟨v, _, ?_, h4, ?_⟩
    · simp [loadVar, run_isAgg' hi, ha, h3]
    · simpa [List.getD, hx] using h2

theorem VR.rowAt {w A ι n row c v} (h : VR w A ι n v (.pa row c)) : ∃ b off, v = .pointer (some ⟨b, off + c, none⟩) ∧ RowAt w A ι 0 b off row := by
  cases h with
  | pa cv hA hc h => exact ⟨_, _, rfl, fun j a ha => ⟨_, hc j a ha, h j a ha⟩⟩

theorem RowsOk.rowAt {w A ι n o wd rows} (h : RowsOk w A ι n o wd rows) (hv : o.virt = false) {r : Nat} {row : List AV} (hr : rows[r]? = some row) : RowAt w A ι n o.blk (r * o.wd) row := by
  obtain ⟨h1, h2, h3, h4⟩ := h
  rw [hv] at h4
  simp only [Bool.false_eq_true, if_false] at h4
  obtain ⟨arr, el, h5, h6, h7⟩ := h4
  intro j a ha
  obtain ⟨v, h8, h9⟩ := h7 r row hr j a ha
  refine ⟨v, ?_, h9⟩
  simp [World.cell?, h5, h1, h8]

theorem getElem?_splice {α : Type} (l : List α) (s : Nat) (xs : List α) (m : Nat) (h : s + xs.length ≤ l.length) :
    (l.take s ++ xs ++ l.drop (s + xs.length))[m]? = if m < s then l[m]? else if m < s + xs.length then xs[m - s]? else l[m]? := by
  have hs : (l.take s).length = s := by simp; omega
  by_cases h1 : m < s
  · rw [if_pos h1, List.append_assoc, List.getElem?_append_left (by omega), List.getElem?_take, if_pos h1]
  · rw [if_neg h1]
    by_cases h2 : m < s + xs.length
    · rw [if_pos h2, List.append_assoc, List.getElem?_append_right (by omega), hs, List.getElem?_append_left (by omega)]
    · rw [if_neg h2, List.getElem?_append_right (by simp; omega), List.getElem?_drop]
      congr 1
      simp
      omega

theorem avCells_spec {w A ι n v av cs} (h : VR w A ι n v av) (hc : avCells av = some cs) :
    v.cells.toList.length = cs.length ∧ ∀ (j : Nat) (u : Value) (a : AV), v.cells.toList[j]? = some u → cs[j]? = some a → VR w A ι n u a := by
  have one : ∀ (v : Value) (av : AV), v.cells = #[v] → VR w A ι n v av → avCells av = some [av] → cs = [av] → v.cells.toList.length = cs.length ∧ ∀ (j : Nat) (u : Value) (a : AV), v.cells.toList[j]? = some u → cs[j]? = some a → VR w A ι n u a := by
    intro v av hv h hc he
    subst he
    rw [hv]
    refine ⟨rfl, fun j u a hu ha => ?_⟩
    cases j with
    | zero => simp at hu ha; subst hu; subst ha; exact h
    | succ j => simp at hu
  cases h with
  | any => simp [avCells] at hc
  | lit =>
    cases v <;> simp only [avCells, Option.some.injEq] at hc <;> first
      | exact one _ _ rfl .lit rfl hc.symm
      | (subst hc
         simp only [Value.cells, List.length_map, true_and]
         intro j u a hu ha
         rw [List.getElem?_map, hu] at ha
         simp at ha
         subst ha
         exact .lit)
  | agg vs l hl h =>
    simp only [avCells, Option.some.injEq] at hc
    subst hc
    exact ⟨by simpa [Value.cells] using hl, fun j u a hu ha => h j u a (by simpa [Value.cells] using hu) ha⟩
  | tup vs l hl h => simp only [avCells, Option.some.injEq] at hc; exact one _ _ rfl (.tup vs l hl h) rfl hc.symm
  | clo vs l hl h => simp only [avCells, Option.some.injEq] at hc; exact one _ _ rfl (.clo vs l hl h) rfl hc.symm
  | psz => simp only [avCells, Option.some.injEq] at hc; exact one _ _ rfl .psz rfl hc.symm
  | ps wd cv h1 h2 h3 h4 h5 => simp only [avCells, Option.some.injEq] at hc; exact one _ _ rfl (.ps wd cv h1 h2 h3 h4 h5) rfl hc.symm
  | pa cv h1 h2 h3 => simp only [avCells, Option.some.injEq] at hc; exact one _ _ rfl (.pa cv h1 h2 h3) rfl hc.symm
  | os h1 h2 h3 h4 => simp only [avCells, Option.some.injEq] at hc; exact one _ _ rfl (.os h1 h2 h3 h4) rfl hc.symm
  | osz h1 => simp only [avCells, Option.some.injEq] at hc; exact one _ _ rfl (.osz h1) rfl hc.symm
  | ptr h1 h2 => simp only [avCells, Option.some.injEq] at hc; exact one _ _ rfl (.ptr h1 h2) rfl hc.symm

theorem VR.isCell {w A ι n v av} (h : VR w A ι n v av) (hc : av.isCell = true) : v.oneCell' = true := by
  cases h with
  | lit => cases v <;> simp [AV.isCell] at hc <;> rfl
  | any => simp [AV.isCell] at hc
  | agg => simp [AV.isCell] at hc
  | tup => simp [AV.isCell] at hc
  | _ => rfl

/-- The heap's other blocks. -/
structure Near (w w' : World) (b : Nat) : Prop where
  os : w'.os = w.os
  tape : w'.tape = w.tape
  output : w'.output = w.output
  size : w.heap.size ≤ w'.heap.size
  keep : ∀ k, k < w.heap.size → k ≠ b → w'.heap[k]? = w.heap[k]?

theorem live_put {ι : Owns} {σ : St} {id : Nat} {B : Blk} {b : Nat} (h : Live ι (σ.put id B) b) (hl : id < σ.n → (σ.h id).live = true) : Live ι σ b := by
  obtain ⟨k, h1, h2, h3, h4⟩ := h
  refine ⟨k, h1, ?_, h3, h4⟩
  simp only [St.put] at h2 h1
  by_cases hk : k = id
  · subst hk; exact hl h1
  · simpa [hk] using h2

theorem BlkOk.mono {w w' A A' ι ι' n n' o B} (h : BlkOk w A ι n o B) (hn : n ≤ n') (hA : ∀ b, A b → A' b) (hw : ∀ b, A b → w'.heap[b]? = w.heap[b]?) (hι : ∀ id, id < n → ι' id = ι id)
    (hb : B.live = true → o.virt = false → w'.heap[o.blk]? = w.heap[o.blk]?) : BlkOk w' A' ι' n' o B := by
  cases B with
  | dead => trivial
  | flat wd rows =>
    obtain ⟨h1, h2, h3, h4⟩ := h
    refine ⟨h1, h2, h3, ?_⟩
    split
    · rename_i hv; rw [if_pos hv] at h4; exact h4
    · rename_i hv
      rw [if_neg hv] at h4
      obtain ⟨arr, el, h5, h6, h7⟩ := h4
      refine ⟨arr, el, by rw [hb rfl (by simpa using hv)]; exact h5, h6, fun i row hr j a ha => ?_⟩
      obtain ⟨v, h8, h9⟩ := h7 i row hr j a ha
      exact ⟨v, h8, h9.mono (Nat.le_refl _) hA hw (fun _ h => absurd h (Nat.not_lt_zero _))⟩
  | deep wd rows =>
    obtain ⟨h1, h2, h3, h4⟩ := h
    refine ⟨h1, h2, h3, ?_⟩
    split
    · rename_i hv; rw [if_pos hv] at h4; exact h4
    · rename_i hv
      rw [if_neg hv] at h4
      obtain ⟨arr, el, h5, h6, h7⟩ := h4
      refine ⟨arr, el, by rw [hb rfl (by simpa using hv)]; exact h5, h6, fun i row hr j a ha => ?_⟩
      obtain ⟨v, h8, h9⟩ := h7 i row hr j a ha
      exact ⟨v, h8, h9.mono hn hA hw hι⟩

/-- A block of the call's own is written. -/
theorem Real.write {w w' A ι σ id B} (hr : Real w A ι σ) (hid : id < σ.n) (hl : (σ.h id).live = true) (hv : (ι id).virt = false) (hn : Near w w' (ι id).blk) (hB : BlkOk w' A ι σ.n (ι id) B) :
    Real w' A ι (σ.put id B) ∧ Ext w A ι σ w' A ι (σ.put id B) := by
  have hAne : ∀ b, A b → b ≠ (ι id).blk := fun b hb he => hr.away b hb ⟨id, hid, hl, hv, he.symm⟩
  have hAw : ∀ b, A b → w'.heap[b]? = w.heap[b]? := fun b hb => hn.keep b (hr.inA b hb) (hAne b hb)
  have hlv : ∀ b, Live ι (σ.put id B) b → Live ι σ b := fun b hb => live_put hb (fun _ => hl)
  refine ⟨⟨fun k hk => ?_, fun i j hi hj h1 h2 h3 h4 h5 => ?_, fun b hb hb' => hr.away b hb (hlv b hb'), fun b hb => Nat.lt_of_lt_of_le (hr.inA b hb) hn.size, fun k hk => ?_⟩, ⟨hn.os, hn.tape, hn.output, hn.size, Nat.le_refl _, fun _ _ => rfl, fun _ h => h, fun b hb hnl => ?_, fun b hb => .inl (hlv b hb), fun b hb => .inl hb⟩⟩
  · simp only [St.put] at hk ⊢
    by_cases hki : k = id
    · subst hki; simpa using hB
    · rw [if_neg hki]
      refine (hr.ok k hk).mono (Nat.le_refl _) (fun _ h => h) hAw (fun _ _ => rfl) (fun h1 h2 => ?_)
      have hlive : Live ι σ (ι k).blk := ⟨k, hk, h1, h2, rfl⟩
      exact hn.keep _ (hr.live_lt hlive) (fun he => hki (hr.inj k id hk hid h1 hl h2 hv he))
  · have t : ∀ k, k < σ.n → ((σ.put id B).h k).live = true → (σ.h k).live = true := fun k hk h => by
      simp only [St.put] at h
      by_cases hki : k = id
      · subst hki; exact hl
      · simpa [hki] using h
    exact hr.inj i j hi hj (t i hi h1) (t j hj h2) h3 h4 h5
  · simp only [St.put] at hk ⊢
    rw [if_neg (by omega)]
    exact hr.dead k hk
  · exact hn.keep b hb (fun he => hnl ⟨id, hid, hl, hv, he.symm⟩)

/-- A new block of the call's own; another may have been given up for it. -/
theorem Real.make {w w' A ι σ} (hr : Real w A ι σ) {o : Own} {B : Blk} {b0 : Nat} (hn : Near w w' b0) (hb : o.virt = false → o.blk = w.heap.size ∧ w.heap.size < w'.heap.size)
    (hb0 : b0 < w.heap.size → False) (hB : BlkOk w' A (fun k => if k = σ.n then o else ι k) (σ.n + 1) o B) :
    Real w' A (fun k => if k = σ.n then o else ι k) (σ.new B) ∧ Ext w A ι σ w' A (fun k => if k = σ.n then o else ι k) (σ.new B) := by
  have hAw : ∀ b, A b → w'.heap[b]? = w.heap[b]? := fun b hb => hn.keep b (hr.inA b hb) (fun he => hb0 (by subst he; exact hr.inA _ hb))
  have hι : ∀ k, k < σ.n → (if k = σ.n then o else ι k) = ι k := fun k hk => if_neg (by omega)
  have hlv : ∀ b, Live (fun k => if k = σ.n then o else ι k) (σ.new B) b → Live ι σ b ∨ w.heap.size ≤ b := by
    rintro b ⟨k, h1, h2, h3, h4⟩
    simp only [St.new] at h1 h2
    by_cases hk : k = σ.n
    · subst hk
      simp only [if_true] at h3 h4
      exact .inr (by have := (hb h3).1; omega)
    · rw [if_neg hk] at h2
      simp only [hk, if_false] at h3 h4
      exact .inl ⟨k, by omega, h2, h3, h4⟩
  have hAn : ∀ b, A b → ¬ w.heap.size ≤ b := fun b hb => by have := hr.inA b hb; omega
  refine ⟨⟨fun k hk => ?_, fun i j hi hj h1 h2 h3 h4 h5 => ?_, fun b hb hb' => (hlv b hb').elim (hr.away b hb) (hAn b hb), fun b hb => Nat.lt_of_lt_of_le (hr.inA b hb) hn.size, fun k hk => ?_⟩, ⟨hn.os, hn.tape, hn.output, hn.size, by simp [St.new], hι, fun _ h => h, fun b hb' hnl => hn.keep b hb' (fun he => hb0 (by omega)), hlv, fun b hb => .inl hb⟩⟩
  · simp only [St.new] at hk ⊢
    by_cases hki : k = σ.n
    · subst hki; simpa using hB
    · rw [if_neg hki, if_neg hki]
      refine (hr.ok k (by omega)).mono (by omega) (fun _ h => h) hAw hι (fun h1 h2 => ?_)
      have hlive : Live ι σ (ι k).blk := ⟨k, by omega, h1, h2, rfl⟩
      exact hn.keep _ (hr.live_lt hlive) (fun he => hb0 (by have := hr.live_lt hlive; omega))
  · simp only [St.new] at hi hj h1 h2 h3 h4 h5
    have old : ∀ k, k < σ.n + 1 → k ≠ σ.n → (if k = σ.n then B else σ.h k).live = true → (if k = σ.n then o else ι k).virt = false → (if k = σ.n then o else ι k).blk < w.heap.size := by
      intro k hk hkn g1 g2
      rw [if_neg hkn] at g1 g2 ⊢
      exact hr.live_lt ⟨k, by omega, g1, g2, rfl⟩
    by_cases hi' : i = σ.n <;> by_cases hj' : j = σ.n
    · omega
    · have := old j hj hj' h2 h4
      subst hi'
      simp only [if_true] at h3 h5
      have := (hb h3).1
      omega
    · have := old i hi hi' h1 h3
      subst hj'
      simp only [if_true] at h4 h5
      have := (hb h4).1
      omega
    · simp only [hi', hj', if_false] at h1 h2 h3 h4 h5
      exact hr.inj i j (by omega) (by omega) h1 h2 h3 h4 h5
  · simp only [St.new] at hk ⊢
    rw [if_neg (by omega)]
    exact hr.dead k (by omega)

/-- A block is given up. -/
theorem Real.drop {w A ι σ} (hr : Real w A ι σ) (id : Nat) : Real w A ι (σ.put id .dead) ∧ Ext w A ι σ w A ι (σ.put id .dead) := by
  have hlv : ∀ b, Live ι (σ.put id .dead) b → Live ι σ b := by
    rintro b ⟨k, h1, h2, h3, h4⟩
    simp only [St.put] at h1 h2
    by_cases hk : k = id
    · simp [hk, Blk.live] at h2
    · rw [if_neg hk] at h2; exact ⟨k, h1, h2, h3, h4⟩
  have t : ∀ k, ((σ.put id .dead).h k).live = true → (σ.h k).live = true := fun k h => by
    simp only [St.put] at h
    by_cases hki : k = id
    · simp [hki, Blk.live] at h
    · simpa [hki] using h
  refine ⟨⟨fun k hk => ?_, fun i j hi hj h1 h2 h3 h4 h5 => hr.inj i j hi hj (t i h1) (t j h2) h3 h4 h5, fun b hb hb' => hr.away b hb (hlv b hb'), hr.inA, fun k hk => ?_⟩, ⟨rfl, rfl, rfl, Nat.le_refl _, Nat.le_refl _, fun _ _ => rfl, fun _ h => h, fun _ _ _ => rfl, fun b hb => .inl (hlv b hb), fun b hb => .inl hb⟩⟩
  · simp only [St.put] at hk ⊢
    by_cases hki : k = id
    · simp [hki, BlkOk]
    · rw [if_neg hki]; exact hr.ok k hk
  · simp only [St.put] at hk ⊢
    by_cases hki : k = id
    · simp [hki]
    · rw [if_neg hki]; exact hr.dead k hk

end Go.Proofs.Qqz
namespace Go.Proofs.Qqz
open Go

def VRs (w : World) (A : Nat → Prop) (ι : Owns) (n : Nat) (vs : List Value) (args : List AV) : Prop :=
  vs.length = args.length ∧ ∀ (i : Nat) (v : Value) (a : AV), vs[i]? = some v → args[i]? = some a → VR w A ι n v a

/-- A value has come, and the state that goes with it. -/
def Got (τ : Nat → Value) (w : World) (A : Nat → Prop) (ι : Owns) (σ : St) (K : KT) (v : Value) (w' : World) : Prop :=
  ∃ A' ι' σ' e' av, Real w' A' ι' σ' ∧ Ext w A ι σ w' A' ι' σ' ∧ (∀ i, VR w' A' ι' σ'.n (τ i) (e' i)) ∧ VR w' A' ι' σ'.n v av ∧ K av e' σ'

def FOk (P : Program) (f : FuncId) : Prop := ∃ fn, P.funcs[f]? = some fn ∧ fn.body.isSome = true ∧ (fn.name == "runtime.NumGoroutine") = false

/-- A call of function f with these arguments, in this state, comes back, and K holds of what it gives. -/
def ACall (P : Program) (f : FuncId) (args : List AV) (e : Env) (σ : St) (K : KT) : Prop :=
  FOk P f ∧ ∀ (w : World) (A : Nat → Prop) (ι : Owns) (vs : List Value), Real w A ι σ → VRs w A ι σ.n vs args →
    Calls P f vs.toArray w fun en w' => ∃ v, en = .returned v ∧ ∃ A' ι' σ' av, Real w' A' ι' σ' ∧ Ext w A ι σ w' A' ι' σ' ∧ VR w' A' ι' σ'.n v av ∧ K av e σ'

def Ran (P : Program) (s : Sem Value) (τ : Nat → Value) (w : World) (A : Nat → Prop) (ι : Owns) (σ : St) (K : KT) : Prop :=
  ∃ v w', s.run P w = .ok v w' ∧ Got τ w A ι σ K v w'

section
variable {P : Program} {τ : Nat → Value} {w : World} {A : Nat → Prop} {ι : Owns} {σ : St} {e : Env} {K : KT}

theorem Got.same (hr : Real w A ι σ) (he : ∀ i, VR w A ι σ.n (τ i) (e i)) {v : Value} {av : AV} (hv : VR w A ι σ.n v av) (hK : K av e σ) : Got τ w A ι σ K v w :=
  ⟨A, ι, σ, e, av, hr, Ext.refl _ _ _ _, he, hv, hK⟩

theorem Got.mk' (hr : Real w A ι σ) (he : ∀ i, VR w A ι σ.n (τ i) (e i)) {w' A' ι' σ'} (h : Real w' A' ι' σ' ∧ Ext w A ι σ w' A' ι' σ') {v : Value} {av : AV} (hv : VR w' A' ι' σ'.n v av) (hK : K av e σ') : Got τ w A ι σ K v w' :=
  ⟨A', ι', σ', e, av, h.1, h.2, fun i => (he i).ext hr h.2, hv, hK⟩

theorem loadA_read (hr : Real w A ι σ) {t : TypeId} {x : AV} {vx : Value} (hx : VR w A ι σ.n vx x) (h : loadA P t x e σ K) : ∃ v av, (Instr.loadAt t vx).run P w = .ok v w ∧ VR w A ι σ.n v av ∧ K av e σ := by
  obtain ⟨i, hi, h⟩ := withTI_spec h
  cases x with
  | pa row c =>
    obtain ⟨b, off, rfl, hrow⟩ := hx.rowAt
    obtain ⟨v, av, h1, h2, h3⟩ := loadRow_sound hi (hrow.up (Nat.zero_le σ.n)) h
    exact ⟨v, av, by simp [Instr.loadAt, Instr.sureAddr, h1], h2, h3⟩
  | ptr id r c =>
    cases hx with
    | ptr hn hv =>
      have hb := hr.ok id hn
      cases hB : σ.h id with
      | dead => simp [hB] at h
      | flat wd rows =>
        simp only [hB] at h
        rw [hB] at hb
        obtain ⟨hlt, h⟩ := h
        have hrow : rows[r]? = some (rows.getD r []) := by simp [List.getD, List.getElem?_eq_getElem hlt]
        obtain ⟨v, av, h1, h2, h3⟩ := loadRow_sound hi ((RowsOk.rowAt hb hv hrow).up (Nat.zero_le σ.n)) h
        exact ⟨v, av, by simp [Instr.loadAt, Instr.sureAddr, h1], h2, h3⟩
      | deep wd rows =>
        simp only [hB] at h
        rw [hB] at hb
        obtain ⟨hlt, h⟩ := h
        have hrow : rows[r]? = some (rows.getD r []) := by simp [List.getD, List.getElem?_eq_getElem hlt]
        obtain ⟨v, av, h1, h2, h3⟩ := loadRow_sound hi (RowsOk.rowAt hb hv hrow) h
        exact ⟨v, av, by simp [Instr.loadAt, Instr.sureAddr, h1], h2, h3⟩
  | _ => exact h.elim

theorem loadA_sound (hr : Real w A ι σ) (he : ∀ i, VR w A ι σ.n (τ i) (e i)) {t : TypeId} {x : AV} {vx : Value} (hx : VR w A ι σ.n vx x) (h : loadA P t x e σ K) : Ran P (Instr.loadAt t vx) τ w A ι σ K := by
  obtain ⟨v, av, h1, h2, h3⟩ := loadA_read hr hx h
  exact ⟨v, w, h1, Got.same hr he h2 h3⟩

theorem near_setRow (w : World) (g : Nat) (cs : Array Value) : Near w (w.setRow g cs) g :=
  ⟨rfl, rfl, rfl, by simp [World.setRow], fun k _ hne => setRow_other w g k cs hne⟩

/-- Rows with one of them written in part. -/
theorem rows_write {A : Nat → Prop} {ι : Owns} {w w' : World} {n : Nat} {o : Own} {wd : Nat} {rows : List (List AV)} (hb : RowsOk w A ι n o wd rows) (hv : o.virt = false) {arr : Array Value} {el : TypeId}
    (hh : w.heap[o.blk]? = some (.cells arr el (0, 0))) {r c : Nat} {us : List Value} {cs : List AV} (hlen : us.length = cs.length) (hr : r < rows.length) (hc : c + cs.length ≤ wd)
    (hu : ∀ (j : Nat) (u : Value) (a : AV), us[j]? = some u → cs[j]? = some a → VR w A ι n u a) (hA : ∀ b, A b → w'.heap[b]? = w.heap[b]?)
    (hh' : w'.heap[o.blk]? = some (.cells (arr.toList.take (r * o.wd + c) ++ us ++ arr.toList.drop (r * o.wd + c + us.length)).toArray el (0, 0))) :
    RowsOk w' A ι n o wd (rows.set r (splice (rows.getD r []) c cs)) := by
  obtain ⟨h1, h2, h3, h4⟩ := hb
  rw [hv] at h4
  simp only [Bool.false_eq_true, if_false] at h4
  obtain ⟨arr', el', h5, h6, h7⟩ := h4
  rw [hh] at h5
  cases h5
  have hrow : rows[r]? = some (rows.getD r []) := by simp [List.getD, List.getElem?_eq_getElem hr]
  have hrl : (rows.getD r []).length = wd := h3 _ _ hrow
  have hsp : (splice (rows.getD r []) c cs).length = wd := by
    generalize rows.getD r [] = l at hrl
    simp [splice]; omega
  have hfit : r * o.wd + c + us.length ≤ arr.toList.length := by
    have : (r + 1) * wd ≤ o.cap * wd := Nat.mul_le_mul_right _ (by omega)
    rw [Nat.add_mul] at this
    have e1 : arr.toList.length = o.cap * wd := by rw [← h6]; simp
    rw [e1, h1, hlen]
    omega
  have hmono : ∀ {u a}, VR w A ι n u a → VR w' A ι n u a := fun h => h.mono (Nat.le_refl _) (fun _ h => h) hA (fun _ _ => rfl)
  refine ⟨h1, by simpa using h2, fun i row hi => ?_, ?_⟩
  · rw [List.getElem?_set] at hi
    split at hi
    · first | (cases hi; exact hsp) | (rw [if_pos hr] at hi; cases hi; exact hsp)
    · exact h3 i row hi
  · rw [hv]
    simp only [Bool.false_eq_true, if_false]
    refine ⟨_, el, hh', ?_, fun i row hi j a ha => ?_⟩
    · have := List.length_take_of_le (l := arr.toList) (i := r * o.wd + c) (by omega)
      simp only [List.size_toArray, List.length_append, this, List.length_drop]
      rw [← h6, ← Array.length_toList]
      omega
    · simp only [List.getElem?_toArray]
      rw [getElem?_splice _ _ _ _ hfit]
      rw [List.getElem?_set] at hi
      by_cases hri : r = i
      · subst hri
        rw [if_pos rfl] at hi
        first | cases hi | (rw [if_pos hr] at hi; cases hi)
        rw [splice, getElem?_splice _ _ _ _ (by omega)] at ha
        by_cases hjc : j < c
        · rw [if_pos hjc] at ha
          obtain ⟨v, g1, g2⟩ := h7 r _ hrow j a ha
          exact ⟨v, by rw [if_pos (by rw [h1]; omega)]; simpa using g1, hmono g2⟩
        · rw [if_neg hjc] at ha
          by_cases hjk : j < c + cs.length
          · rw [if_pos hjk] at ha
            have hlt : j - c < us.length := by omega
            refine ⟨us[j - c], ?_, hmono (hu (j - c) _ a (List.getElem?_eq_getElem hlt) ha)⟩
            rw [if_neg (by rw [h1]; omega), if_pos (by rw [h1]; omega), h1, show r * wd + j - (r * wd + c) = j - c by omega, List.getElem?_eq_getElem hlt]
          · rw [if_neg hjk] at ha
            obtain ⟨v, g1, g2⟩ := h7 r _ hrow j a ha
            exact ⟨v, by rw [if_neg (by rw [h1]; omega), if_neg (by rw [h1]; omega)]; simpa using g1, hmono g2⟩
      · rw [if_neg hri] at hi
        obtain ⟨v, g1, g2⟩ := h7 i row hi j a ha
        have hjw : j < wd := by rw [← h3 i row hi]; exact (List.getElem?_eq_some_iff.1 ha).1
        refine ⟨v, ?_, hmono g2⟩
        rcases Nat.lt_or_gt_of_ne hri with h | h
        · have : (r + 1) * wd ≤ i * wd := Nat.mul_le_mul_right _ (by omega)
          rw [Nat.add_mul] at this
          rw [if_neg (by rw [h1]; omega), if_neg (by rw [h1]; omega)]
          simpa using g1
        · have : (i + 1) * wd ≤ r * wd := Nat.mul_le_mul_right _ (by omega)
          rw [Nat.add_mul] at this
          rw [if_pos (by rw [h1]; omega)]
          simpa using g1

theorem RowsOk.heap {w A ι n o wd rows} (h : RowsOk w A ι n o wd rows) (hv : o.virt = false) : ∃ arr el, w.heap[o.blk]? = some (.cells arr el (0, 0)) ∧ arr.size = o.cap * wd ∧ o.wd = wd ∧ rows.length ≤ o.cap := by
  obtain ⟨h1, h2, h3, h4⟩ := h
  rw [hv] at h4
  simp only [Bool.false_eq_true, if_false] at h4
  obtain ⟨arr, el, h5, h6, _⟩ := h4
  exact ⟨arr, el, h5, h6, h1, h2⟩

theorem storeA_sound (hr : Real w A ι σ) (he : ∀ i, VR w A ι σ.n (τ i) (e i)) {t : TypeId} {x y : AV} {vx vy : Value} (hx : VR w A ι σ.n vx x) (hy : VR w A ι σ.n vy y) (h : storeA P t x y e σ K) :
    ∃ w', (Instr.storeAt t vx vy).run P w = .ok () w' ∧ Got τ w A ι σ K undef w' := by
  obtain ⟨i, hi, h⟩ := withTI_spec h
  cases hcs : avCells y with
  | none => simp [hcs] at h
  | some cs =>
    cases x with
    | ptr id r c =>
      simp only [hcs] at h
      obtain ⟨hcl, hcell, h⟩ := h
      obtain ⟨hl, hel⟩ := avCells_spec hy hcs
      cases hx with
      | ptr hn hv =>
        have hone : ∀ v ∈ vy.cells.toList, v.oneCell' = true := by
          intro v hvm
          obtain ⟨j, hj, hjv⟩ := List.getElem_of_mem hvm
          have hj' : vy.cells.toList[j]? = some v := by rw [List.getElem?_eq_getElem hj, hjv]
          have hjc : cs[j]? = some (cs[j]'(by omega)) := List.getElem?_eq_getElem (by omega)
          exact (hel j v _ hj' hjc).isCell (hcell _ (List.getElem_mem _))
        have fin : ∀ (n : Nat) (wd : Nat) (rows : List (List AV)) (B : List (List AV) → Blk), (σ.h id).live = true → RowsOk w A ι n (ι id) wd rows →
            (∀ (j : Nat) (u : Value) (a : AV), vy.cells.toList[j]? = some u → cs[j]? = some a → VR w A ι n u a) → (∀ w' rows', RowsOk w' A ι n (ι id) wd rows' → BlkOk w' A ι σ.n (ι id) (B rows')) → r < rows.length → c + cs.length ≤ wd →
            K .any e (σ.put id (B (rows.set r (splice (rows.getD r []) c cs)))) → ∃ w', (Instr.storeAt t (.pointer (some ⟨(ι id).blk, r * (ι id).wd + c, none⟩)) vy).run P w = .ok () w' ∧ Got τ w A ι σ K undef w' := by
          intro n wd rows B hlive hb hu hBB hrl hcw hK
          obtain ⟨arr, el, hh, hsz, hwd, hcap⟩ := hb.heap hv
          have hfit : r * (ι id).wd + c + vy.cells.toList.length ≤ arr.size := by
            have : (r + 1) * wd ≤ (ι id).cap * wd := Nat.mul_le_mul_right _ (by omega)
            rw [Nat.add_mul] at this
            rw [hsz, hwd, hl]
            omega
          have hst := run_storeCells_at P (ι id).blk (r * (ι id).wd + c) el vy.cells.toList 0 arr w hh (by simpa using hfit) hone
          simp only [Nat.add_zero] at hst
          have hrw := rows_write hb hv hh hl hrl hcw hu (fun b hb' => setRow_other w _ _ _ (fun hbe => hr.away b hb' ⟨id, hn, hlive, hv, hbe.symm⟩)) (setRow_heap w _ _ _ _ _ hh)
          refine ⟨_, ?_, Got.mk' hr he (hr.write hn hlive hv (near_setRow _ _ _) (hBB _ _ hrw)) (av := .any) .any hK⟩
          have hsz2 : vy.cells.size = i.cells := by rw [← hcl, ← hl]; simp
          simp [Instr.storeAt, Instr.sureAddr, storeVar, run_sizeOf' hi, hsz2, hst]
        have hb := hr.ok id hn
        cases hB : σ.h id with
        | dead => simp [hB] at h
        | flat wd rows =>
          simp only [hB] at h
          rw [hB] at hb
          obtain ⟨hfl, h1, h2, h3⟩ := h
          exact fin 0 wd rows (.flat wd) (by simp [hB, Blk.live]) hb (fun j u a h1 h2 => (hel j u a h1 h2).flat (hfl a (List.mem_of_getElem? h2))) (fun _ _ h => h) h1 h2 h3
        | deep wd rows =>
          simp only [hB] at h
          rw [hB] at hb
          obtain ⟨h1, h2, h3⟩ := h
          exact fin σ.n wd rows (.deep wd) (by simp [hB, Blk.live]) hb hel (fun _ _ h => h) h1 h2 h3
    | _ => simp [hcs] at h

theorem near_push (w : World) (o : Obj) (b0 : Nat) : Near w { w with heap := w.heap.push o } b0 :=
  ⟨rfl, rfl, rfl, by simp, fun k hk _ => by simp [Array.getElem?_push, Nat.ne_of_lt hk]⟩

/-- A new block with these cells, read as rows. -/
theorem new_block (hr : Real w A ι σ) (he : ∀ i, VR w A ι σ.n (τ i) (e i)) {w' : World} {arr : Array Value} {el : TypeId} (hh : w'.heap = w.heap.push (.cells arr el (0, 0))) (hos : w'.os = w.os) (htp : w'.tape = w.tape) (hou : w'.output = w.output)
    {cap wd : Nat} {rows : List (List AV)} (hsz : arr.size = cap * wd) (hcap : rows.length ≤ cap) (hwd : ∀ (i : Nat) (row : List AV), rows[i]? = some row → row.length = wd) {v : Value} {av : AV} {B : Blk} {n : Nat} (hn : n ≤ σ.n)
    (hB : ∀ w A ι m o, n ≤ m → RowsOk w A ι n o wd rows → BlkOk w A ι m o B)
    (hc : ∀ (i : Nat) (row : List AV), rows[i]? = some row → ∀ (j : Nat) (a : AV), row[j]? = some a → ∃ u, arr[i * wd + j]? = some u ∧ VR w A ι n u a)
    (hv : ∀ A ι' n, σ.n < n → ι' σ.n = ⟨w.heap.size, cap, wd, false⟩ → VR w' A ι' n v av) (hK : K av e (σ.new B)) : Got τ w A ι σ K v w' := by
  have hnear : Near w w' w.heap.size := ⟨hos, htp, hou, by simp [hh], fun k hk hne => by rw [hh, Array.getElem?_push, if_neg (by omega)]⟩
  refine Got.mk' hr he (hr.make (o := ⟨w.heap.size, cap, wd, false⟩) (b0 := w.heap.size) hnear (fun _ => ⟨rfl, by simp [hh]⟩) (fun h => Nat.lt_irrefl _ h) ?_) ?_ hK
  · refine hB _ _ _ _ _ (by omega) ⟨rfl, hcap, hwd, ?_⟩
    simp only [Bool.false_eq_true, if_false]
    refine ⟨arr, el, by simp [hh], hsz, fun i row hi j a ha => ?_⟩
    obtain ⟨u, h1, h2⟩ := hc i row hi j a ha
    exact ⟨u, h1, h2.mono (Nat.le_refl _) (fun _ h => h) (fun b hb => hnear.keep b (hr.inA b hb) (fun h => by have := hr.inA b hb; omega)) (fun id hid => if_neg (by omega))⟩
  · exact hv _ _ _ (by simp [St.new]) (by simp)

theorem run_newVar (t : TypeId) (v : Value) (w : World) : (newVar t v).run P w = .ok ⟨w.heap.size, 0, none⟩ { w with heap := w.heap.push (.cells v.cells t) } := by
  simp [newVar, newRow]

theorem allocA_sound (hr : Real w A ι σ) (he : ∀ i, VR w A ι σ.n (τ i) (e i)) {t : TypeId} {old : Value} (h : allocA P t e σ K) : Ran P (Instr.alloc t true old) τ w A ι σ K := by
  obtain ⟨i, hi, h⟩ := withTI_spec h
  obtain ⟨z, hz, hzc⟩ := run_zero' (P := P) hi w
  refine ⟨.pointer (some ⟨w.heap.size, 0, none⟩), { w with heap := w.heap.push (.cells z.cells t) }, ?_, ?_⟩
  · cases old <;> simp [Instr.alloc, hz, run_newVar]
  · refine new_block (w' := { w with heap := w.heap.push (.cells z.cells t) }) (arr := z.cells) (el := t) (rows := [i.zero.map .lit]) (B := .deep i.zero.length [i.zero.map .lit]) (av := .ptr σ.n 0 0) (cap := 1) (wd := i.zero.length) (n := σ.n) hr he rfl rfl rfl rfl (by simp [← hzc]) (by simp) ?_ (Nat.le_refl _) (fun w A ι m o hm h => ?_) ?_ (fun A ι' n hn ho => ?_) h
    · intro k row hk
      cases k with
      | zero => simp at hk; subst hk; simp
      | succ k => simp at hk
    · exact (show BlkOk w A ι σ.n o (.deep _ _) from h).mono hm (fun _ h => h) (fun _ _ => rfl) (fun _ _ => rfl) (fun _ _ => rfl)
    · intro k row hk j a ha
      cases k with
      | zero =>
        simp at hk
        subst hk
        rw [List.getElem?_map] at ha
        cases hzj : i.zero[j]? with
        | none => simp [hzj] at ha
        | some u =>
          simp [hzj] at ha
          subst ha
          exact ⟨u, by rw [← hzc] at hzj; simpa using hzj, .lit⟩
      | succ k => simp at hk
    · have := VR.ptr (w := { w with heap := w.heap.push (.cells z.cells t) }) (A := A) (ι := ι') (n := n) (id := σ.n) (r := 0) (c := 0) hn (by rw [ho])
      rw [ho] at this
      simp only [Nat.zero_mul, Nat.zero_add] at this
      exact this

theorem boxA_sound (hr : Real w A ι σ) (he : ∀ i, VR w A ι σ.n (τ i) (e i)) {t : TypeId} {x : AV} {vx : Value} (hx : VR w A ι σ.n vx x) (h : boxA x e σ K) : Ran P (Instr.box t vx) τ w A ι σ K := by
  unfold boxA at h
  split at h
  case h_2 => exact h.elim
  rename_i cs hcs
  obtain ⟨hl, hel⟩ := avCells_spec hx hcs
  refine ⟨.pointer (some ⟨w.heap.size, 0, none⟩), { w with heap := w.heap.push (.cells vx.cells t) }, by simp [Instr.box, run_newVar], ?_⟩
  refine new_block (w' := { w with heap := w.heap.push (.cells vx.cells t) }) (arr := vx.cells) (el := t) (rows := [cs]) (B := .deep cs.length [cs]) (av := .ptr σ.n 0 0) (cap := 1) (wd := cs.length) (n := σ.n) hr he rfl rfl rfl rfl (by simp [← hl]) (by simp) ?_ (Nat.le_refl _) (fun w A ι m o hm h => ?_) ?_ (fun A ι' n hn ho => ?_) h
  · intro k row hk
    cases k with
    | zero => simp at hk; subst hk; simp
    | succ k => simp at hk
  · exact (show BlkOk w A ι σ.n o (.deep _ _) from h).mono hm (fun _ h => h) (fun _ _ => rfl) (fun _ _ => rfl) (fun _ _ => rfl)
  · intro k row hk j a ha
    cases k with
    | zero =>
      simp at hk
      subst hk
      have hj : j < vx.cells.toList.length := by rw [hl]; exact (List.getElem?_eq_some_iff.1 ha).1
      have hju : vx.cells.toList[j]? = some (vx.cells.toList[j]) := List.getElem?_eq_getElem hj
      exact ⟨_, by rw [← Array.getElem?_toList, Nat.zero_mul, Nat.zero_add]; exact hju, hel j _ a hju ha⟩
    | succ k => simp at hk
  · have := VR.ptr (w := { w with heap := w.heap.push (.cells vx.cells t) }) (A := A) (ι := ι') (n := n) (id := σ.n) (r := 0) (c := 0) hn (by rw [ho])
    rw [ho] at this
    simp only [Nat.zero_mul, Nat.zero_add] at this
    exact this

end
end Go.Proofs.Qqz
namespace Go.Proofs.Qqz
open Go

section
variable {P : Program} {τ : Nat → Value} {w : World} {A : Nat → Prop} {ι : Owns} {σ : St} {e : Env} {K : KT}

theorem fieldAddrA_sound (hr : Real w A ι σ) (he : ∀ i, VR w A ι σ.n (τ i) (e i)) {t : TypeId} {x : AV} {vx : Value} {f : Nat} (hx : VR w A ι σ.n vx x) (h : fieldAddrA P t x f e σ K) : Ran P (Instr.fieldAt t vx f) τ w A ι σ K := by
  obtain ⟨i, hi, h⟩ := withTI_spec h
  obtain ⟨inf, d, z, _, hd, _, _, _, _, _, _, hfs, _⟩ := tiOf_spec hi
  split at h
  case h_2 => exact h.elim
  rename_i off ty hf
  obtain ⟨htj, h⟩ := h
  obtain ⟨j, hj, hpos⟩ := withTI_spec htj
  cases d with
  | struct fs =>
    simp only at hfs
    rw [hfs, List.getElem?_map] at hf
    cases hg : fs.toList[f]? with
    | none => simp [hg] at hf
    | some g =>
      simp [hg] at hf
      obtain ⟨rfl, rfl⟩ := hf
      have hg' : fs[f]? = some g := by simpa using hg
      have hne : j.cells ≠ 0 := by omega
      have hfp : ∀ a w, (fieldPlace a g).run P w = .ok (a.add g.offset) w := fun a w => by simp [fieldPlace, run_sizeOf' hj, hne]
      cases x with
      | pa row c =>
        cases hx with
        | @pa n b o row c cv hA hc hh =>
          refine ⟨.pointer (some ⟨b, o + (c + g.offset), none⟩), w, ?_, Got.same hr he (.pa cv hA hc hh) h⟩
          have : (⟨b, o + c, none⟩ : Addr).add g.offset = ⟨b, o + (c + g.offset), none⟩ := by
            unfold Addr.add; split <;> simp_all [Nat.add_assoc]
          simp [Instr.fieldAt, run_underlying hd, hg', Instr.sureAddr, hfp, this]
      | ptr id r c =>
        cases hx with
        | ptr hn hv =>
          refine ⟨.pointer (some ⟨(ι id).blk, r * (ι id).wd + (c + g.offset), none⟩), w, ?_, Got.same hr he (.ptr hn hv) h⟩
          have : (⟨(ι id).blk, r * (ι id).wd + c, none⟩ : Addr).add g.offset = ⟨(ι id).blk, r * (ι id).wd + (c + g.offset), none⟩ := by
            unfold Addr.add; split <;> simp_all [Nat.add_assoc]
          simp [Instr.fieldAt, run_underlying hd, hg', Instr.sureAddr, hfp, this]
      | _ => exact h.elim
  | _ => simp at hfs; simp [hfs] at hf

theorem agg_part {w A ι n} {vs : List Value} {l : List AV} (hl : vs.length = l.length) (hel : ∀ (i : Nat) (v : Value) (a : AV), vs[i]? = some v → l[i]? = some a → VR w A ι n v a) {ty : TypeId} {j : TI} (hj : tiOf P ty = some j) {off : Nat}
    (h : loadRow j l off e σ K) : ∃ v av, (part ty vs.toArray off).run P w = .ok v w ∧ VR w A ι n v av ∧ K av e σ := by
  unfold loadRow at h
  by_cases ha : j.agg = true
  · rw [if_pos ha] at h
    obtain ⟨h1, h2⟩ := h
    refine ⟨.agg ((vs.drop off).take j.cells).toArray, _, ?_, .agg _ _ ?_ ?_, h2⟩
    · simp only [part, Sem.run_bind, run_isAgg' hj, Result.andThen_ok, ha, if_true, run_sizeOf' hj, Sem.run_pure]
      congr 2
      apply Array.ext'
      simp [List.drop_take]
    · simp [hl]
    · intro k v a hv ha'
      rw [List.getElem?_take] at hv ha'
      split at hv
      · rename_i hk
        rw [if_pos hk] at ha'
        exact hel (off + k) v a (by simpa using hv) (by simpa using ha')
      · cases hv
  · rw [if_neg ha] at h
    obtain ⟨h1, h2⟩ := h
    have hv : vs[off]? = some (vs[off]'(by omega)) := List.getElem?_eq_getElem (by omega)
    have hx : l[off]? = some (l[off]'h1) := List.getElem?_eq_getElem h1
    refine ⟨vs[off]'(by omega), l[off]'h1, ?_, hel off _ _ hv hx, by simpa [List.getD, hx] using h2⟩
    simp [part, run_isAgg' hj, ha, hv]

theorem fieldA_sound (hr : Real w A ι σ) (he : ∀ i, VR w A ι σ.n (τ i) (e i)) {t : TypeId} {x : AV} {vx : Value} {f : Nat} (hx : VR w A ι σ.n vx x) (h : fieldA P t x f e σ K) : Ran P (Instr.field t vx f) τ w A ι σ K := by
  obtain ⟨i, hi, h⟩ := withTI_spec h
  obtain ⟨inf, d, z, _, hd, _, _, _, _, _, _, hfs, _⟩ := tiOf_spec hi
  split at h
  case h_2 => exact h.elim
  rename_i off ty hf
  obtain ⟨j, hj, h⟩ := withTI_spec h
  cases x with
  | agg l =>
    cases hx with
    | agg vs l hl hel =>
      obtain ⟨v, av, h1, h2, h3⟩ := agg_part (P := P) hl hel hj h
      refine ⟨v, w, ?_, Got.same hr he h2 h3⟩
      cases d with
      | struct fs =>
        simp only at hfs
        rw [hfs, List.getElem?_map] at hf
        cases hg : fs.toList[f]? with
        | none => simp [hg] at hf
        | some g =>
          simp [hg] at hf
          obtain ⟨rfl, rfl⟩ := hf
          have hg' : fs[f]? = some g := by simpa using hg
          simp [Instr.field, run_underlying hd, hg', asAgg, h1]
      | _ => simp at hfs; simp [hfs] at hf
  | _ => exact h.elim

theorem indexAddrA_sound (hr : Real w A ι σ) (he : ∀ i, VR w A ι σ.n (τ i) (e i)) {t : TypeId} {x y : AV} {vx vy : Value} (hx : VR w A ι σ.n vx x) (hy : VR w A ι σ.n vy y) (h : indexAddrA P t x y e σ K) : Ran P (Instr.indexAt t vx vy) τ w A ι σ K := by
  obtain ⟨i, hi, h⟩ := withTI_spec h
  split at h
  case h_2 => exact h.elim
  rename_i el k n hs _
  obtain ⟨j, hj, h0, h⟩ := withTI_spec h
  have hu := slice_of hi hs
  cases hy
  obtain ⟨m, rfl⟩ := Int.eq_ofNat_of_zero_le h0
  simp only [Int.toNat_natCast] at h
  cases x with
  | os id off len =>
    obtain ⟨h1, h2, h3⟩ := h
    have hm : m < len := by omega
    cases hx with
    | osz => omega
    | os hn hv hcap hl =>
      have hwd : (ι id).wd = j.cells := by
        have hb := hr.ok id hn
        cases hB : σ.h id with
        | dead => simp [hB] at h2
        | flat wd rows => rw [hB] at hb h2; exact hb.1.trans h2
        | deep wd rows => rw [hB] at hb h2; exact hb.1.trans h2
      refine ⟨.pointer (some ⟨(ι id).blk, (off + m) * (ι id).wd + 0, none⟩), w, ?_, Got.same hr he (.ptr hn hv) h3⟩
      have : (⟨(ι id).blk, off * (ι id).wd, none⟩ : Addr).add (m * j.cells) = ⟨(ι id).blk, (off + m) * (ι id).wd + 0, none⟩ := by
        rw [hwd, Nat.add_mul]; unfold Addr.add; split <;> simp_all
      simp [Instr.indexAt, asIntOf, run_underlying hu, hm, run_sizeOf' hj, this]
  | ps rows =>
    obtain ⟨h1, h2, h3⟩ := h
    have hm : m < rows.length := by omega
    have hrow : rows[m]? = some (rows.getD m []) := by simp [List.getD, List.getElem?_eq_getElem hm]
    cases hx with
    | psz => simp at hm
    | @ps n b off cap rows wd cv hcap hA hwd hc hh =>
      have hwj : wd = j.cells := (hwd m _ hrow).symm.trans h2
      subst hwj
      refine ⟨.pointer (some ⟨b, off + m * j.cells + 0, none⟩), w, ?_, Got.same hr he (.pa (cv m) hA (fun q a ha => ?_) (fun q a ha => hh m _ hrow q a ha)) h3⟩
      · have : (⟨b, off, none⟩ : Addr).add (m * j.cells) = ⟨b, off + m * j.cells + 0, none⟩ := by
          unfold Addr.add; split <;> simp_all
        simp [Instr.indexAt, asIntOf, run_underlying hu, hm, run_sizeOf' hj, this]
      · rw [Nat.add_assoc]; exact hc m _ hrow q a ha
  | _ => exact h.elim

theorem indexA_sound (hr : Real w A ι σ) (he : ∀ i, VR w A ι σ.n (τ i) (e i)) {t : TypeId} {x y : AV} {vx vy : Value} (hx : VR w A ι σ.n vx x) (hy : VR w A ι σ.n vy y) (h : indexA P t x y e σ K) : Ran P (Instr.index t vx vy) τ w A ι σ K := by
  obtain ⟨i, hi, h⟩ := withTI_spec h
  obtain ⟨inf, d, z, _, hd, _, _, _, _, _, _, _, _, hstr⟩ := tiOf_spec hi
  split at h
  case h_2 => exact h.elim
  rename_i s k n _
  obtain ⟨hs, h0, h1, h2⟩ := h
  cases hx
  cases hy
  obtain ⟨m, rfl⟩ := Int.eq_ofNat_of_zero_le h0
  have hm : m < s.size := by omega
  rw [hs] at hstr
  cases d <;> simp at hstr
  simp only [Int.toNat_natCast] at h2
  refine ⟨_, w, ?_, Got.same hr he .lit h2⟩
  have hget : s[m]? = some s[m] := by simp [hm]
  simp only [Instr.index, asIntOf, Sem.run_bind, Sem.run_pure, Result.andThen_ok, run_underlying hd, h0, if_true, Int.toNat_natCast, hget]
  have : s.data.toList.getD m 0 = s[m] := by
    have hm' : m < s.data.toList.length := by simpa using hm
    rw [List.getD, List.getElem?_eq_getElem hm']
    rfl
  rw [this]

theorem lenA_sound (hr : Real w A ι σ) (he : ∀ i, VR w A ι σ.n (τ i) (e i)) {t ty : TypeId} {x : AV} {vx : Value} (hx : VR w A ι σ.n vx x) (h : lenA P t x e σ K) : Ran P (Builtin.len_ #[t] ty #[vx]) τ w A ι σ K := by
  obtain ⟨i, hi, h⟩ := withTI_spec h
  obtain ⟨inf, d, z, _, hd, _, _, _, _, _, _, _, _, hstr⟩ := tiOf_spec hi
  have hsl : ∀ (a : Option Addr) (l c : Nat), i.slice.isSome = true → (Builtin.len_ #[t] ty #[.slice a l c]).run P w = .ok (.int .i64 l) w := fun a l c hs => by
    obtain ⟨el, hel⟩ := Option.isSome_iff_exists.1 hs
    simp [Builtin.len_, run_underlying (slice_of hi hel), goInt]
  split at h
  · obtain ⟨h1, h2⟩ := h
    cases hx with
    | os => exact ⟨_, w, hsl _ _ _ h1, Got.same hr he .lit h2⟩
    | osz => exact ⟨_, w, hsl _ _ _ h1, Got.same hr he .lit h2⟩
  · obtain ⟨h1, h2⟩ := h
    cases hx with
    | ps => exact ⟨_, w, hsl _ _ _ h1, Got.same hr he .lit h2⟩
    | psz => exact ⟨_, w, hsl _ _ _ h1, Got.same hr he .lit h2⟩
  · obtain ⟨h1, h2⟩ := h
    cases hx
    exact ⟨_, w, hsl _ _ _ h1, Got.same hr he .lit h2⟩
  · obtain ⟨h1, h2⟩ := h
    cases hx
    rw [h1] at hstr
    cases d <;> simp at hstr
    exact ⟨_, w, by simp [Builtin.len_, run_underlying hd, goInt], Got.same hr he .lit h2⟩
  · exact h.elim

theorem extractA_sound (hr : Real w A ι σ) (he : ∀ i, VR w A ι σ.n (τ i) (e i)) {x : AV} {vx : Value} {k : Nat} (hx : VR w A ι σ.n vx x) (h : extractA x k e σ K) : Ran P (Instr.extract vx k) τ w A ι σ K := by
  unfold extractA at h
  split at h
  case h_2 => exact h.elim
  rename_i l
  obtain ⟨h1, h2⟩ := h
  cases hx with
  | tup vs l hl hel =>
    have hv : vs[k]? = some (vs[k]'(by omega)) := List.getElem?_eq_getElem (by omega)
    have hx : l[k]? = some (l[k]'h1) := List.getElem?_eq_getElem h1
    exact ⟨_, w, by simp [Instr.extract, hv], Got.same hr he (hel k _ _ hv hx) (by simpa [List.getD, hx] using h2)⟩

theorem beq_dec (a b : Int) : (a == b) = decide (a = b) := by
  rw [Bool.eq_iff_iff]; simp

theorem intA_sound (hr : Real w A ι σ) (he : ∀ i, VR w A ι σ.n (τ i) (e i)) {op : BinOp} {t : TypeId} {k : IntKind} {a b : Int} (h : intA op k a b e σ K) : Ran P (binOp op t (.int k a) (.int k b)) τ w A ι σ K := by
  cases op <;> simp only [intA] at h
  case add => exact ⟨_, w, by simp [binOp, Op.intArith], Got.same hr he .lit h⟩
  case sub => exact ⟨_, w, by simp [binOp, Op.intArith], Got.same hr he .lit h⟩
  case mul => exact ⟨_, w, by simp [binOp, Op.intArith], Got.same hr he .lit h⟩
  case quo => exact ⟨_, w, by simp [binOp, Op.intDiv, h.1], Got.same hr he .lit h.2⟩
  case rem => exact ⟨_, w, by simp [binOp, Op.intDiv, h.1], Got.same hr he .lit h.2⟩
  case eql => exact ⟨_, w, by simp [binOp, Op.intCmp, beq_dec], Got.same hr he .lit h⟩
  case neq => exact ⟨_, w, by simp [binOp, Op.intCmp, bne, beq_dec], Got.same hr he .lit h⟩
  case lss => exact ⟨_, w, by simp [binOp, Op.intCmp], Got.same hr he .lit h⟩
  case leq => exact ⟨_, w, by simp [binOp, Op.intCmp], Got.same hr he .lit h⟩
  case gtr => exact ⟨_, w, by simp [binOp, Op.intCmp], Got.same hr he .lit h⟩
  case geq => exact ⟨_, w, by simp [binOp, Op.intCmp], Got.same hr he .lit h⟩

theorem eqA_sound (hr : Real w A ι σ) (he : ∀ i, VR w A ι σ.n (τ i) (e i)) {t : TypeId} {x y : AV} {vx vy : Value} (hx : VR w A ι σ.n vx x) (hy : VR w A ι σ.n vy y) {Kb : Bool → Prop} (h : eqA P t x y e σ Kb) :
    ∃ b, Kb b ∧ ((∃ p q, vx = .string p ∧ vy = .string q ∧ b = decide (p.toList = q.toList)) ∨
      ((∀ k n, vx ≠ .int k n) ∧ (∀ s, vx ≠ .string s) ∧ (∀ k n, vx ≠ .float k n) ∧ (∀ k n m, vx ≠ .complex k n m) ∧ (∀ op x y, eqGuard op t x y vx vy = pure ()) ∧ (Op.equal t vx vy).run P w = .ok b w)) := by
  have sl : ∀ (a : Option Addr) (l c : Nat) (el : TypeId), P.underlying t = some (.slice el) → (Op.equal t (.slice a l c) (.slice none 0 0)).run P w = .ok a.isNone w := fun a l c el hu => by
    have : ∀ d, (Op.equalIn (d + 1) t (.slice a l c) (.slice none 0 0)).run P w = .ok a.isNone w := fun d => by
      cases a <;> simp [Op.equalIn, run_underlying hu]
    exact this 9999
  have pt : ∀ (a : Option Addr) (el : TypeId), P.underlying t = some (.pointer el) → (Op.equal t (.pointer a) (.pointer none)).run P w = .ok a.isNone w := fun a el hu => by
    have : ∀ d, (Op.equalIn (d + 1) t (.pointer a) (.pointer none)).run P w = .ok a.isNone w := fun d => by
      cases a <;> simp [Op.equalIn, run_underlying hu]
    exact this 9999
  unfold eqA at h
  split at h
  · cases hx; cases hy
    exact ⟨_, h, .inl ⟨_, _, rfl, rfl, rfl⟩⟩
  · cases hx; cases hy
    refine ⟨_, h.2, .inr ⟨nofun, nofun, nofun, nofun, fun op x y => ?_, ?_⟩⟩
    · cases op <;> rfl
    · rename_i a b
      have : ∀ d, (Op.equalIn (d + 1) t (.bool a) (.bool b)).run P w = .ok (a == b) w := fun d => by
        simp [Op.equalIn, run_underlying h.1]
      exact this 9999
  · cases hy
    obtain ⟨⟨el, hu⟩, h⟩ := h
    cases hx with
    | @psz n a => exact ⟨a.isNone, h _ (fun _ => rfl), .inr ⟨nofun, nofun, nofun, nofun, fun op x y => by cases op <;> rfl, sl _ _ _ el hu⟩⟩
    | ps => exact ⟨false, h false nofun, .inr ⟨nofun, nofun, nofun, nofun, fun op x y => by cases op <;> rfl, sl _ _ _ el hu⟩⟩
  · cases hy
    obtain ⟨⟨el, hu⟩, h⟩ := h
    cases hx with
    | os => exact ⟨false, h false nofun, .inr ⟨nofun, nofun, nofun, nofun, fun op x y => by cases op <;> rfl, sl _ _ _ el hu⟩⟩
    | @osz n id off a => exact ⟨a.isNone, h _ (fun _ => rfl), .inr ⟨nofun, nofun, nofun, nofun, fun op x y => by cases op <;> rfl, sl _ _ _ el hu⟩⟩
  · cases hx; cases hy
    obtain ⟨⟨el, hu⟩, h⟩ := h
    exact ⟨true, h, .inr ⟨nofun, nofun, nofun, nofun, fun op x y => by cases op <;> rfl, sl _ _ _ el hu⟩⟩
  · cases hy
    obtain ⟨⟨el, hu⟩, h⟩ := h
    cases hx with
    | pa => exact ⟨false, h, .inr ⟨nofun, nofun, nofun, nofun, fun op x y => by cases op <;> rfl, pt _ el hu⟩⟩
  · cases hy
    obtain ⟨⟨el, hu⟩, h⟩ := h
    cases hx with
    | ptr => exact ⟨false, h, .inr ⟨nofun, nofun, nofun, nofun, fun op x y => by cases op <;> rfl, pt _ el hu⟩⟩
  · cases hx; cases hy
    obtain ⟨⟨el, hu⟩, h⟩ := h
    exact ⟨true, h, .inr ⟨nofun, nofun, nofun, nofun, fun op x y => by cases op <;> rfl, pt _ el hu⟩⟩
  · exact h.elim

theorem binOp_eql {t : TypeId} {vx vy : Value} {b : Bool} (h1 : ∀ k n, vx ≠ .int k n) (h2 : ∀ s, vx ≠ .string s) (h3 : ∀ k n, vx ≠ .float k n) (h4 : ∀ k n m, vx ≠ .complex k n m) (h : (Op.equal t vx vy).run P w = .ok b w) :
    (binOp .eql t vx vy).run P w = .ok (.bool b) w ∧ (binOp .neq t vx vy).run P w = .ok (.bool (!b)) w := by
  cases vx <;> first
    | exact absurd rfl (h1 _ _)
    | exact absurd rfl (h2 _)
    | exact absurd rfl (h3 _ _)
    | exact absurd rfl (h4 _ _ _)
    | simp [binOp, h]

theorem binA_sound (hr : Real w A ι σ) (he : ∀ i, VR w A ι σ.n (τ i) (e i)) {op : BinOp} {t : TypeId} {x y : AV} {vx vy : Value} {ox oy : Operand} (hx : VR w A ι σ.n vx x) (hy : VR w A ι σ.n vy y) (h : binA P op t x y e σ K) :
    Ran P (do eqGuard op t ox oy vx vy; binOp op t vx vy) τ w A ι σ K := by
  unfold binA at h
  split at h
  · cases hx; cases hy
    obtain ⟨rfl, h⟩ := h
    have hg : ∀ k a b, eqGuard op t ox oy (.int k a) (.int k b) = pure () := fun k a b => by cases op <;> rfl
    obtain ⟨v, w', h1, h2⟩ := intA_sound (P := P) (t := t) hr he h
    exact ⟨v, w', by rw [hg]; simpa using h1, h2⟩
  · split at h
    · obtain ⟨b, hK, h⟩ := eqA_sound (P := P) hr he hx hy h
      rcases h with ⟨p, q, rfl, rfl, rfl⟩ | ⟨h1, h2, h3, h4, hg, h5⟩
      · refine ⟨_, w, ?_, Got.same hr he .lit hK⟩
        have hg : eqGuard .eql t ox oy (.string p) (.string q) = pure () := rfl
        rw [hg]
        simp only [Sem.run_bind, Sem.run_pure, Result.andThen_ok, binOp, Op.stringOp]
        congr 2
        rw [Bool.eq_iff_iff]; simp
      · refine ⟨_, w, ?_, Got.same hr he .lit hK⟩
        rw [hg]
        simpa using (binOp_eql h1 h2 h3 h4 h5).1
    · obtain ⟨b, hK, h⟩ := eqA_sound (P := P) hr he hx hy h
      rcases h with ⟨p, q, rfl, rfl, rfl⟩ | ⟨h1, h2, h3, h4, hg, h5⟩
      · refine ⟨_, w, ?_, Got.same hr he .lit hK⟩
        have hg : eqGuard .neq t ox oy (.string p) (.string q) = pure () := rfl
        rw [hg]
        simp only [Sem.run_bind, Sem.run_pure, Result.andThen_ok, binOp, Op.stringOp]
        congr 3
        rw [Bool.eq_iff_iff]; simp
      · refine ⟨_, w, ?_, Got.same hr he .lit hK⟩
        rw [hg]
        simpa using (binOp_eql h1 h2 h3 h4 h5).2
    · split at h
      · cases hx; cases hy
        rename_i p q _
        refine ⟨_, w, ?_, Got.same hr he .lit h.2⟩
        have hg : eqGuard .add t ox oy (.string p) (.string q) = pure () := rfl
        have hs : ¬ (((p.size + q.size : Nat) : Int) > IntKind.i64.max) := by
          have : IntKind.i64.max = 9223372036854775807 := by decide
          rw [this]; omega
        rw [hg]
        simp only [Sem.run_bind, Sem.run_pure, Result.andThen_ok, binOp, Op.stringOp, if_neg hs]
      · exact h.elim
    · exact h.elim

theorem unA_sound (hr : Real w A ι σ) (he : ∀ i, VR w A ι σ.n (τ i) (e i)) {op : UnOp} {x : AV} {vx : Value} (hx : VR w A ι σ.n vx x) (h : unA op x e σ K) : Ran P (Op.unary op vx) τ w A ι σ K := by
  unfold unA at h
  split at h
  · cases hx; exact ⟨_, w, by simp [Op.unary, Op.intArith], Got.same hr he .lit h⟩
  · cases hx; exact ⟨_, w, by simp [Op.unary], Got.same hr he .lit h⟩
  · exact h.elim

theorem convA_sound (hr : Real w A ι σ) (he : ∀ i, VR w A ι σ.n (τ i) (e i)) {src dst : TypeId} {x : AV} {vx : Value} (hx : VR w A ι σ.n vx x) (hsrc : (P.underlying src).isSome = true) (h : convA P dst x e σ K) : Ran P (convert src dst vx) τ w A ι σ K := by
  unfold convA at h
  split at h
  · rename_i k k' n hd
    cases hx
    obtain ⟨s, hs⟩ := Option.isSome_iff_exists.1 hsrc
    refine ⟨_, w, ?_, Got.same hr he .lit h⟩
    simp only [convert, Sem.run_bind, run_underlying hs, run_underlying hd, Result.andThen_ok]
    cases s <;> simp [Conv.intToInt]
  · exact h.elim

end
end Go.Proofs.Qqz
