/- Abstract values and states: how the values of a running Go function are read as data, and what a step may change. -/
import Derived.Calls
import Derived.Orders
import Derived.Still
import Derived.Below
import Derived.KernelRfl
set_option linter.unusedSimpArgs false
set_option linter.unusedVariables false
namespace Go.Proofs.Qqz
open Go

/-- An abstract value: what a slot of a frame holds, read as data. -/
inductive AV where
  | lit (v : Value)
  | agg (l : List AV)
  | tup (l : List AV)
  | clo (f : FuncId) (l : List AV)
  | ps (rows : List (List AV))
  | pa (row : List AV) (col : Nat)
  | os (id off len : Nat)
  | ptr (id row col : Nat)
  | any
  deriving Inhabited

/-- A block of the call's own: its number, how many rows it can hold, the cells of a row; a virtual one is a nil slice. -/
structure Own where
  blk : Nat
  cap : Nat
  wd : Nat
  virt : Bool
  deriving Inhabited

abbrev Owns := Nat → Own

/-- In world w the value v reads as the abstract value; what is read by value lies in blocks of A. -/
inductive VR (w : World) (A : Nat → Prop) (ι : Owns) : Nat → Value → AV → Prop
  | any {n v} : VR w A ι n v .any
  | lit {n v} : VR w A ι n v (.lit v)
  | agg {n} (vs : List Value) (l : List AV) (hl : vs.length = l.length) (h : ∀ (i : Nat) (v : Value) (a : AV), vs[i]? = some v → l[i]? = some a → VR w A ι n v a) : VR w A ι n (.agg vs.toArray) (.agg l)
  | tup {n} (vs : List Value) (l : List AV) (hl : vs.length = l.length) (h : ∀ (i : Nat) (v : Value) (a : AV), vs[i]? = some v → l[i]? = some a → VR w A ι n v a) : VR w A ι n (.tuple vs.toArray) (.tup l)
  | clo {n f} (vs : List Value) (l : List AV) (hl : vs.length = l.length) (h : ∀ (i : Nat) (v : Value) (a : AV), vs[i]? = some v → l[i]? = some a → VR w A ι n v a) : VR w A ι n (.func (.func f) #[] vs.toArray) (.clo f l)
  | psz {n} {a : Option Addr} : VR w A ι n (.slice a 0 0) (.ps [])
  | ps {n b off cap rows} (wd : Nat) (cv : Nat → Nat → Value) (hcap : rows.length ≤ cap) (hA : A b)
      (hwd : ∀ (i : Nat) (row : List AV), rows[i]? = some row → row.length = wd)
      (hc : ∀ (i : Nat) (row : List AV), rows[i]? = some row → ∀ (j : Nat) (a : AV), row[j]? = some a → w.cell? ⟨b, off + (i * wd + j), none⟩ = some (cv i j))
      (h : ∀ (i : Nat) (row : List AV), rows[i]? = some row → ∀ (j : Nat) (a : AV), row[j]? = some a → VR w A ι 0 (cv i j) a) : VR w A ι n (.slice (some ⟨b, off, none⟩) rows.length cap) (.ps rows)
  | pa {n b off row col} (cv : Nat → Value) (hA : A b)
      (hc : ∀ (j : Nat) (a : AV), row[j]? = some a → w.cell? ⟨b, off + j, none⟩ = some (cv j))
      (h : ∀ (j : Nat) (a : AV), row[j]? = some a → VR w A ι 0 (cv j) a) : VR w A ι n (.pointer (some ⟨b, off + col, none⟩)) (.pa row col)
  | os {n id off len cap} (hn : id < n) (hv : (ι id).virt = false) (hcap : off + cap ≤ (ι id).cap) (hl : len ≤ cap) :
      VR w A ι n (.slice (some ⟨(ι id).blk, off * (ι id).wd, none⟩) len cap) (.os id off len)
  | osz {n id off} {a : Option Addr} (hn : id < n) : VR w A ι n (.slice a 0 0) (.os id off 0)
  | ptr {n id r c} (hn : id < n) (hv : (ι id).virt = false) : VR w A ι n (.pointer (some ⟨(ι id).blk, r * (ι id).wd + c, none⟩)) (.ptr id r c)

theorem VR.mono {w w' : World} {A A' : Nat → Prop} {ι ι' : Owns} {n n' : Nat} {v : Value} {a : AV} (h : VR w A ι n v a) (hn : n ≤ n')
    (hA : ∀ b, A b → A' b) (hw : ∀ b, A b → w'.heap[b]? = w.heap[b]?) (hι : ∀ id, id < n → ι' id = ι id) : VR w' A' ι' n' v a := by
  have hcell : ∀ b o, A b → w'.cell? ⟨b, o, none⟩ = w.cell? ⟨b, o, none⟩ := fun b o hb => by simp [World.cell?, hw b hb]
  induction h generalizing n' with
  | any => exact .any
  | lit => exact .lit
  | agg vs l hl _ ih => exact .agg vs l hl fun i v a h1 h2 => ih i v a h1 h2 hn hι
  | tup vs l hl _ ih => exact .tup vs l hl fun i v a h1 h2 => ih i v a h1 h2 hn hι
  | clo vs l hl _ ih => exact .clo vs l hl fun i v a h1 h2 => ih i v a h1 h2 hn hι
  | psz => exact .psz
  | ps wd cv hcap hA' hwd hc _ ih =>
    exact .ps wd cv hcap (hA _ hA') hwd (fun i row h1 j a h2 => by rw [hcell _ _ hA']; exact hc i row h1 j a h2) fun i row h1 j a h2 => ih i row h1 j a h2 (Nat.le_refl _) (fun _ h => absurd h (Nat.not_lt_zero _))
  | pa cv hA' hc _ ih =>
    exact .pa cv (hA _ hA') (fun j a h2 => by rw [hcell _ _ hA']; exact hc j a h2) fun j a h2 => ih j a h2 (Nat.le_refl _) (fun _ h => absurd h (Nat.not_lt_zero _))
  | @os n id off len cap h1 hv hcap hl =>
    have := hι id h1
    rw [← this]
    exact .os (by omega) (by rw [this]; exact hv) (by rw [this]; exact hcap) hl
  | osz h1 => exact .osz (by omega)
  | @ptr n id r c h1 hv =>
    have := hι id h1
    rw [← this]
    exact .ptr (by omega) (by rw [this]; exact hv)

/-- Holds no reference to a block of the call's own. -/
inductive Flat : AV → Prop
  | any : Flat .any
  | lit {v} : Flat (.lit v)
  | agg {l : List AV} (h : ∀ (i : Nat) (a : AV), l[i]? = some a → Flat a) : Flat (.agg l)
  | tup {l : List AV} (h : ∀ (i : Nat) (a : AV), l[i]? = some a → Flat a) : Flat (.tup l)
  | clo {f} {l : List AV} (h : ∀ (i : Nat) (a : AV), l[i]? = some a → Flat a) : Flat (.clo f l)
  | ps {rows} : Flat (.ps rows)
  | pa {row col} : Flat (.pa row col)

theorem VR.flat {w : World} {A : Nat → Prop} {ι : Owns} {n : Nat} {v : Value} {a : AV} (h : VR w A ι n v a) (hf : Flat a) : VR w A ι 0 v a := by
  induction h with
  | any => exact .any
  | lit => exact .lit
  | agg vs l hl _ ih => cases hf with | agg hf => exact .agg vs l hl fun i v a h1 h2 => ih i v a h1 h2 (hf i a h2)
  | tup vs l hl _ ih => cases hf with | tup hf => exact .tup vs l hl fun i v a h1 h2 => ih i v a h1 h2 (hf i a h2)
  | clo vs l hl _ ih => cases hf with | clo hf => exact .clo vs l hl fun i v a h1 h2 => ih i v a h1 h2 (hf i a h2)
  | psz => exact .psz
  | ps wd cv hcap hA hwd hc h _ => exact .ps wd cv hcap hA hwd hc h
  | pa cv hA hc h _ => exact .pa cv hA hc h
  | os => cases hf
  | osz => cases hf
  | ptr => cases hf

theorem VR.up {w : World} {A : Nat → Prop} {ι : Owns} {n n' : Nat} {v : Value} {a : AV} (h : VR w A ι n v a) (hn : n ≤ n') : VR w A ι n' v a :=
  h.mono hn (fun _ h => h) (fun _ _ => rfl) (fun _ _ => rfl)

/-- A block of the call's own, as data: flat rows hold no references to such blocks; deep ones may. -/
inductive Blk where
  | dead
  | flat (wd : Nat) (rows : List (List AV))
  | deep (wd : Nat) (rows : List (List AV))
  deriving Inhabited

def Blk.live : Blk → Bool
  | .dead => false
  | _ => true

structure St where
  n : Nat
  h : Nat → Blk

def St.empty : St := ⟨0, fun _ => .dead⟩
def St.new (σ : St) (b : Blk) : St := ⟨σ.n + 1, fun k => if k = σ.n then b else σ.h k⟩
def St.put (σ : St) (id : Nat) (b : Blk) : St := ⟨σ.n, fun k => if k = id then b else σ.h k⟩

/-- Rows of a block as the heap holds them. -/
def RowsOk (w : World) (A : Nat → Prop) (ι : Owns) (n : Nat) (o : Own) (wd : Nat) (rows : List (List AV)) : Prop :=
  o.wd = wd ∧ rows.length ≤ o.cap ∧ (∀ (i : Nat) (row : List AV), rows[i]? = some row → row.length = wd) ∧
    if o.virt = true then rows = [] else
      ∃ (arr : Array Value) (el : TypeId), w.heap[o.blk]? = some (.cells arr el (0, 0)) ∧ arr.size = o.cap * wd ∧
        ∀ (i : Nat) (row : List AV), rows[i]? = some row → ∀ (j : Nat) (a : AV), row[j]? = some a → ∃ v, arr[i * wd + j]? = some v ∧ VR w A ι n v a

def BlkOk (w : World) (A : Nat → Prop) (ι : Owns) (n : Nat) (o : Own) : Blk → Prop
  | .dead => True
  | .flat wd rows => RowsOk w A ι 0 o wd rows
  | .deep wd rows => RowsOk w A ι n o wd rows

/-- Block b is one of the call's own and in use. -/
def Live (ι : Owns) (σ : St) (b : Nat) : Prop := ∃ id, id < σ.n ∧ (σ.h id).live = true ∧ (ι id).virt = false ∧ (ι id).blk = b

structure Real (w : World) (A : Nat → Prop) (ι : Owns) (σ : St) : Prop where
  ok : ∀ id, id < σ.n → BlkOk w A ι σ.n (ι id) (σ.h id)
  inj : ∀ i j, i < σ.n → j < σ.n → (σ.h i).live = true → (σ.h j).live = true → (ι i).virt = false → (ι j).virt = false → (ι i).blk = (ι j).blk → i = j
  away : ∀ b, A b → ¬ Live ι σ b
  inA : ∀ b, A b → b < w.heap.size
  dead : ∀ id, σ.n ≤ id → σ.h id = .dead

theorem Real.live_lt {w : World} {A : Nat → Prop} {ι : Owns} {σ : St} (h : Real w A ι σ) {b : Nat} (hb : Live ι σ b) : b < w.heap.size := by
  obtain ⟨id, h1, h2, h3, rfl⟩ := hb
  have := h.ok id h1
  cases hk : σ.h id with
  | dead => simp [hk, Blk.live] at h2
  | flat wd rows =>
    simp only [hk, BlkOk, RowsOk, h3, Bool.false_eq_true, if_false] at this
    obtain ⟨_, _, _, arr, el, hh, _⟩ := this
    exact (Array.getElem?_eq_some_iff.1 hh).1
  | deep wd rows =>
    simp only [hk, BlkOk, RowsOk, h3, Bool.false_eq_true, if_false] at this
    obtain ⟨_, _, _, arr, el, hh, _⟩ := this
    exact (Array.getElem?_eq_some_iff.1 hh).1

/-- What a step may change: blocks of the call's own that were in use, and new ones. -/
structure Ext (w : World) (A : Nat → Prop) (ι : Owns) (σ : St) (w' : World) (A' : Nat → Prop) (ι' : Owns) (σ' : St) : Prop where
  os : w'.os = w.os
  tape : w'.tape = w.tape
  output : w'.output = w.output
  size : w.heap.size ≤ w'.heap.size
  n : σ.n ≤ σ'.n
  io : ∀ id, id < σ.n → ι' id = ι id
  inA : ∀ b, A b → A' b
  keep : ∀ b, b < w.heap.size → ¬ Live ι σ b → w'.heap[b]? = w.heap[b]?
  live : ∀ b, Live ι' σ' b → Live ι σ b ∨ w.heap.size ≤ b
  newA : ∀ b, A' b → A b ∨ Live ι σ b ∨ w.heap.size ≤ b

theorem Ext.refl (w : World) (A : Nat → Prop) (ι : Owns) (σ : St) : Ext w A ι σ w A ι σ :=
  ⟨rfl, rfl, rfl, Nat.le_refl _, Nat.le_refl _, fun _ _ => rfl, fun _ h => h, fun _ _ _ => rfl, fun _ h => .inl h, fun _ h => .inl h⟩

theorem Ext.trans {w A ι σ w1 A1 ι1 σ1 w2 A2 ι2 σ2} (h : Ext w A ι σ w1 A1 ι1 σ1) (k : Ext w1 A1 ι1 σ1 w2 A2 ι2 σ2) : Ext w A ι σ w2 A2 ι2 σ2 where
  os := k.os.trans h.os
  tape := k.tape.trans h.tape
  output := k.output.trans h.output
  size := Nat.le_trans h.size k.size
  n := Nat.le_trans h.n k.n
  io := fun id hid => (k.io id (Nat.lt_of_lt_of_le hid h.n)).trans (h.io id hid)
  inA := fun b hb => k.inA b (h.inA b hb)
  keep := fun b hb hl => (k.keep b (Nat.lt_of_lt_of_le hb h.size) (fun hl' => (h.live b hl').elim hl (fun h' => by omega))).trans (h.keep b hb hl)
  live := fun b hb => (k.live b hb).elim (fun h' => h.live b h') (fun h' => .inr (Nat.le_trans h.size h'))
  newA := fun b hb => (k.newA b hb).elim (fun h' => h.newA b h') (fun h' => h'.elim (fun h' => .inr (h.live b h')) (fun h' => .inr (.inr (Nat.le_trans h.size h'))))

theorem VR.ext {w A ι σ w' A' ι' σ'} {v : Value} {a : AV} (h : VR w A ι σ.n v a) (hr : Real w A ι σ) (he : Ext w A ι σ w' A' ι' σ') : VR w' A' ι' σ'.n v a :=
  h.mono he.n he.inA (fun b hb => he.keep b (hr.inA b hb) (hr.away b hb)) he.io

theorem VR.ext0 {w A ι σ w' A' ι' σ'} {v : Value} {a : AV} (h : VR w A ι 0 v a) (hr : Real w A ι σ) (he : Ext w A ι σ w' A' ι' σ') : VR w' A' ι' 0 v a :=
  h.mono (Nat.le_refl _) he.inA (fun b hb => he.keep b (hr.inA b hb) (hr.away b hb)) (fun _ h => absurd h (Nat.not_lt_zero _))

end Go.Proofs.Qqz
