/- Equations for the operations that look into a type; lists of whole numbers in memory. -/
import Derived.Test.YtanoekhdoelkbaaGreatStep
set_option linter.unusedSimpArgs false
set_option linter.unusedVariables false
namespace Go.Proofs.Qqz
open Go

def loadB (i : TI) (B : Blk) (r c : Nat) (e : Env) (σ : St) (K : KT) : Prop :=
  match B with
  | .flat _ rows => r < rows.length ∧ loadRow i (rows.getD r []) c e σ K
  | .deep _ rows => r < rows.length ∧ loadRow i (rows.getD r []) c e σ K
  | .dead => False

def storeB (i : TI) (cs : Option (List AV)) (B : Blk) (id r c : Nat) (e : Env) (σ : St) (K : KT) : Prop :=
  match cs with
  | some cs => cs.length = i.cells ∧ (∀ a ∈ cs, a.isCell = true) ∧
    match B with
    | .flat wd rows => (∀ a ∈ cs, Flat a) ∧ r < rows.length ∧ c + cs.length ≤ wd ∧ K .any e (σ.put id (.flat wd (rows.set r (splice (rows.getD r []) c cs))))
    | .deep wd rows => r < rows.length ∧ c + cs.length ≤ wd ∧ K .any e (σ.put id (.deep wd (rows.set r (splice (rows.getD r []) c cs))))
    | .dead => False
  | none => False

def wdB (B : Blk) (n : Nat) : Prop :=
  match B with
  | .flat wd _ => wd = n
  | .deep wd _ => wd = n
  | .dead => False

section
variable (P : Program) (e : Env) (σ : St) (K : KT)

@[go_sem] theorem loadA_pa (t : TypeId) (row : List AV) (c : Nat) : loadA P t (.pa row c) e σ K = withTI P t fun i => loadRow i row c e σ K := rfl
@[go_sem] theorem loadA_ptr (t : TypeId) (id r c : Nat) : loadA P t (.ptr id r c) e σ K = withTI P t fun i => loadB i (σ.h id) r c e σ K := rfl
@[go_sem] theorem loadB_flat (i : TI) (wd : Nat) (rows : List (List AV)) (r c : Nat) (h : r < rows.length) : loadB i (.flat wd rows) r c e σ K = loadRow i (rows.getD r []) c e σ K := by simp [loadB, h]
@[go_sem] theorem loadB_deep (i : TI) (wd : Nat) (rows : List (List AV)) (r c : Nat) (h : r < rows.length) : loadB i (.deep wd rows) r c e σ K = loadRow i (rows.getD r []) c e σ K := by simp [loadB, h]
@[go_sem] theorem loadRow_one (n b : Nat) (z : List Value) (s : Option Nat) (f : List (Nat × Nat)) (k : Option IntKind) (st : Bool) (row : List AV) (c : Nat) (h : c < row.length) :
    loadRow ⟨false, n, b, z, s, f, k, st⟩ row c e σ K = K (row.getD c .any) e σ := by simp [loadRow, h]
@[go_sem] theorem loadRow_agg (n b : Nat) (z : List Value) (s : Option Nat) (f : List (Nat × Nat)) (k : Option IntKind) (st : Bool) (row : List AV) (c : Nat) (h : c + n ≤ row.length) :
    loadRow ⟨true, n, b, z, s, f, k, st⟩ row c e σ K = K (.agg ((row.drop c).take n)) e σ := by simp [loadRow, h]
@[go_sem] theorem storeA_ptr (t : TypeId) (id r c : Nat) (v : AV) : storeA P t (.ptr id r c) v e σ K = withTI P t fun i => storeB i (avCells v) (σ.h id) id r c e σ K := by
  unfold storeA storeB
  congr 1
  funext i
  cases avCells v with
  | none => rfl
  | some cs => rfl
@[go_sem] theorem storeB_flat (i : TI) (cs : List AV) (wd : Nat) (rows : List (List AV)) (id r c : Nat) (h : r < rows.length) (h' : c + cs.length ≤ wd) : storeB i (some cs) (.flat wd rows) id r c e σ K =
    (cs.length = i.cells ∧ (∀ a ∈ cs, a.isCell = true) ∧ (∀ a ∈ cs, Flat a) ∧ K .any e (σ.put id (.flat wd (rows.set r (splice (rows.getD r []) c cs))))) := by simp [storeB, h, h']
@[go_sem] theorem storeB_deep (i : TI) (cs : List AV) (wd : Nat) (rows : List (List AV)) (id r c : Nat) (h : r < rows.length) (h' : c + cs.length ≤ wd) : storeB i (some cs) (.deep wd rows) id r c e σ K =
    (cs.length = i.cells ∧ (∀ a ∈ cs, a.isCell = true) ∧ K .any e (σ.put id (.deep wd (rows.set r (splice (rows.getD r []) c cs))))) := by simp [storeB, h, h']

@[go_sem] theorem avCells_agg (l : List AV) : avCells (.agg l) = some l := rfl
@[go_sem] theorem avCells_ps (l : List (List AV)) : avCells (.ps l) = some [.ps l] := rfl
@[go_sem] theorem avCells_pa (l : List AV) (c : Nat) : avCells (.pa l c) = some [.pa l c] := rfl
@[go_sem] theorem avCells_os (i o l : Nat) : avCells (.os i o l) = some [.os i o l] := rfl
@[go_sem] theorem avCells_ptr (i o l : Nat) : avCells (.ptr i o l) = some [.ptr i o l] := rfl
@[go_sem] theorem avCells_clo (f : Nat) (l : List AV) : avCells (.clo f l) = some [.clo f l] := rfl
@[go_sem] theorem avCells_int (k : IntKind) (n : Int) : avCells (.lit (.int k n)) = some [.lit (.int k n)] := rfl
@[go_sem] theorem avCells_bool (b : Bool) : avCells (.lit (.bool b)) = some [.lit (.bool b)] := rfl
@[go_sem] theorem avCells_str (b : ByteArray) : avCells (.lit (.string b)) = some [.lit (.string b)] := rfl
@[go_sem] theorem avCells_slice (a : Option Addr) (n m : Nat) : avCells (.lit (.slice a n m)) = some [.lit (.slice a n m)] := rfl
@[go_sem] theorem avCells_pointer (a : Option Addr) : avCells (.lit (.pointer a)) = some [.lit (.pointer a)] := rfl

@[go_sem] theorem isCell_ps (l : List (List AV)) : (AV.ps l).isCell = true := rfl
@[go_sem] theorem isCell_pa (l : List AV) (c : Nat) : (AV.pa l c).isCell = true := rfl
@[go_sem] theorem isCell_os (i o l : Nat) : (AV.os i o l).isCell = true := rfl
@[go_sem] theorem isCell_ptr (i o l : Nat) : (AV.ptr i o l).isCell = true := rfl
@[go_sem] theorem isCell_clo (f : Nat) (l : List AV) : (AV.clo f l).isCell = true := rfl
@[go_sem] theorem isCell_int (k : IntKind) (n : Int) : (AV.lit (.int k n)).isCell = true := rfl
@[go_sem] theorem isCell_bool (b : Bool) : (AV.lit (.bool b)).isCell = true := rfl
@[go_sem] theorem isCell_str (b : ByteArray) : (AV.lit (.string b)).isCell = true := rfl
@[go_sem] theorem isCell_slice (a : Option Addr) (n m : Nat) : (AV.lit (.slice a n m)).isCell = true := rfl
@[go_sem] theorem isCell_pointer (a : Option Addr) : (AV.lit (.pointer a)).isCell = true := rfl
@[go_sem] theorem Flat_lit (v : Value) : Flat (.lit v) = True := eq_true .lit
@[go_sem] theorem Flat_ps (l : List (List AV)) : Flat (.ps l) = True := eq_true .ps
@[go_sem] theorem Flat_pa (l : List AV) (c : Nat) : Flat (.pa l c) = True := eq_true .pa
@[go_sem] theorem Flat_any : Flat .any = True := eq_true .any

@[go_sem] theorem makeA_int (t : TypeId) (k k' : IntKind) (n m : Int) : makeA P t (.lit (.int k n)) (.lit (.int k' m)) e σ K = withTI P t fun i => makeI P i.slice n m e σ K := rfl
@[go_sem] theorem makeI_some (el : Nat) (n m : Int) (h0 : 0 ≤ n) (h1 : n ≤ m) (h2 : m ≤ 4294967296) : makeI P (some el) n m e σ K = withTI P el fun j => j.bytes ≤ 4096 ∧ 0 < j.cells ∧ j.zero.length = j.cells ∧
          K (.os σ.n 0 n.toNat) e (σ.new (.flat j.cells (List.replicate n.toNat (j.zero.map .lit)))) := by simp [makeI, h0, h1, h2]

@[go_sem] theorem lenA_os (t : TypeId) (id off len : Nat) : lenA P t (.os id off len) e σ K = withTI P t fun i => i.slice.isSome = true ∧ K (.lit (.int .i64 len)) e σ := rfl
@[go_sem] theorem lenA_ps (t : TypeId) (l : List (List AV)) : lenA P t (.ps l) e σ K = withTI P t fun i => i.slice.isSome = true ∧ K (.lit (.int .i64 l.length)) e σ := rfl
@[go_sem] theorem lenA_nil (t : TypeId) : lenA P t (.lit (.slice none 0 0)) e σ K = withTI P t fun i => i.slice.isSome = true ∧ K (.lit (.int .i64 0)) e σ := rfl
@[go_sem] theorem lenA_str (t : TypeId) (s : ByteArray) : lenA P t (.lit (.string s)) e σ K = withTI P t fun i => i.str = true ∧ K (.lit (.int .i64 s.size)) e σ := rfl

def fieldAddrP (P : Program) (f : Option (Nat × Nat)) (x : AV) (e : Env) (σ : St) (K : KT) : Prop :=
  match f with
  | some (off, ty) => (withTI P ty fun j => 0 < j.cells) ∧
    match x with
    | .pa row c => K (.pa row (c + off)) e σ
    | .ptr id r c => K (.ptr id r (c + off)) e σ
    | _ => False
  | none => False
@[go_sem] theorem fieldAddrA_eq (t : TypeId) (x : AV) (f : Nat) : fieldAddrA P t x f e σ K = withTI P t fun i => fieldAddrP P i.fields[f]? x e σ K := rfl
@[go_sem] theorem fieldAddrP_pa (off ty : Nat) (row : List AV) (c : Nat) : fieldAddrP P (some (off, ty)) (.pa row c) e σ K = ((withTI P ty fun j => 0 < j.cells) ∧ K (.pa row (c + off)) e σ) := rfl
@[go_sem] theorem fieldAddrP_ptr (off ty : Nat) (id r c : Nat) : fieldAddrP P (some (off, ty)) (.ptr id r c) e σ K = ((withTI P ty fun j => 0 < j.cells) ∧ K (.ptr id r (c + off)) e σ) := rfl

def fieldP (P : Program) (f : Option (Nat × Nat)) (l : List AV) (e : Env) (σ : St) (K : KT) : Prop :=
  match f with
  | some (off, ty) => withTI P ty fun j => loadRow j l off e σ K
  | none => False
@[go_sem] theorem fieldA_agg (t : TypeId) (l : List AV) (f : Nat) : fieldA P t (.agg l) f e σ K = withTI P t fun i => fieldP P i.fields[f]? l e σ K := rfl
@[go_sem] theorem fieldP_some (off ty : Nat) (l : List AV) : fieldP P (some (off, ty)) l e σ K = withTI P ty fun j => loadRow j l off e σ K := rfl

def indexP (P : Program) (sl : Option Nat) (x : AV) (n : Int) (e : Env) (σ : St) (K : KT) : Prop :=
  match sl with
  | some el => withTI P el fun j => 0 ≤ n ∧
    match x with
    | .os id off len => n < len ∧ wdB (σ.h id) j.cells ∧ K (.ptr id (off + n.toNat) 0) e σ
    | .ps rows => n < rows.length ∧ (rows.getD n.toNat []).length = j.cells ∧ K (.pa (rows.getD n.toNat []) 0) e σ
    | _ => False
  | none => False
@[go_sem] theorem indexAddrA_int (t : TypeId) (x : AV) (k : IntKind) (n : Int) : indexAddrA P t x (.lit (.int k n)) e σ K = withTI P t fun i => indexP P i.slice x n e σ K := by
  unfold indexAddrA indexP
  congr 1
  funext i
  cases i.slice with
  | none => rfl
  | some el =>
    cases x with
    | os id off len =>
      simp only [wdB]
      cases σ.h id <;> rfl
    | _ => rfl
@[go_sem] theorem indexP_os (el id off len : Nat) (n : Int) (h0 : 0 ≤ n) (h1 : n < len) : indexP P (some el) (.os id off len) n e σ K = withTI P el fun j => wdB (σ.h id) j.cells ∧ K (.ptr id (off + n.toNat) 0) e σ := by simp [indexP, h0, h1]
@[go_sem] theorem indexP_ps (el : Nat) (rows : List (List AV)) (n : Int) (h0 : 0 ≤ n) (h1 : n < rows.length) : indexP P (some el) (.ps rows) n e σ K = withTI P el fun j => (rows.getD n.toNat []).length = j.cells ∧ K (.pa (rows.getD n.toNat []) 0) e σ := by simp [indexP, h0, h1]
@[go_sem] theorem wdB_flat (wd : Nat) (rows : List (List AV)) (n : Nat) : wdB (.flat wd rows) n = (wd = n) := rfl
@[go_sem] theorem wdB_deep (wd : Nat) (rows : List (List AV)) (n : Nat) : wdB (.deep wd rows) n = (wd = n) := rfl
@[go_sem] theorem indexA_str (t : TypeId) (s : ByteArray) (k : IntKind) (n : Int) (h0 : 0 ≤ n) (h1 : n < s.size) : indexA P t (.lit (.string s)) (.lit (.int k n)) e σ K =
  withTI P t fun i => i.str = true ∧ K (.lit (.int .u8 ((s.data.toList.getD n.toNat 0).toNat : Int))) e σ := by simp [indexA, h0, h1]

def sliceOsP (P : Program) (sl : Option Nat) (id off len : Nat) (lo hi mx : Option AV) (e : Env) (σ : St) (K : KT) : Prop :=
  match sl with
  | some el => mx = none ∧ bndA 0 lo fun l => bndA len hi fun h => 0 ≤ l ∧ l ≤ h ∧ h ≤ len ∧ (withTI P el fun j => wdB (σ.h id) j.cells) ∧ K (.os id (off + l.toNat) (h - l).toNat) e σ
  | none => False
@[go_sem] theorem sliceA_os (t : TypeId) (id off len : Nat) (lo hi mx : Option AV) : sliceA P t (.os id off len) lo hi mx e σ K = withTI P t fun i => sliceOsP P i.slice id off len lo hi mx e σ K := by
  unfold sliceA sliceOsP sliceOsA
  congr 1
  funext i
  cases i.slice with
  | none => rfl
  | some el =>
    simp only [wdB]
    congr 2
    funext l
    congr 1
    funext h
    congr 3
    congr 1
    unfold withTI
    cases σ.h id <;> cases tiOf P el <;> simp [eq_comm]
def sliceB (P : Program) (el id off len : Nat) (l h : Int) (e : Env) (σ : St) (K : KT) : Prop := 0 ≤ l ∧ l ≤ h ∧ h ≤ len ∧ (withTI P el fun j => wdB (σ.h id) j.cells) ∧ K (.os id (off + l.toNat) (h - l).toNat) e σ
@[go_sem] theorem sliceB_eq (el id off len : Nat) (l h : Int) (h0 : 0 ≤ l) (h1 : l ≤ h) (h2 : h ≤ len) : sliceB P el id off len l h e σ K = ((withTI P el fun j => wdB (σ.h id) j.cells) ∧ K (.os id (off + l.toNat) (h - l).toNat) e σ) := by simp [sliceB, h0, h1, h2]
@[go_sem] theorem sliceOsP_some (el id off len : Nat) (lo hi : Option AV) : sliceOsP P (some el) id off len lo hi none e σ K =
    bndA 0 lo fun l => bndA len hi fun h => sliceB P el id off len l h e σ K := by simp [sliceOsP, sliceB]
def slicePsP (P : Program) (sl : Option Nat) (rows : List (List AV)) (lo hi mx : Option AV) (e : Env) (σ : St) (K : KT) : Prop :=
  match sl with
  | some el => (withTI P el fun j => ∀ row ∈ rows, j.cells = row.length) ∧ bndA 0 lo fun l => bndA rows.length hi fun h => slicePsA P el rows l h hi mx e σ K
  | none => False
@[go_sem] theorem sliceA_ps (t : TypeId) (rows : List (List AV)) (lo hi mx : Option AV) : sliceA P t (.ps rows) lo hi mx e σ K = withTI P t fun i => slicePsP P i.slice rows lo hi mx e σ K := rfl
@[go_sem] theorem slicePsP_some (el : Nat) (rows : List (List AV)) (lo hi mx : Option AV) : slicePsP P (some el) rows lo hi mx e σ K =
    ((withTI P el fun j => ∀ row ∈ rows, j.cells = row.length) ∧ bndA 0 lo fun l => bndA rows.length hi fun h => slicePsA P el rows l h hi mx e σ K) := rfl
@[go_sem] theorem slicePsA_none (el : Nat) (rows : List (List AV)) (l h : Int) (hi : Option AV) (h0 : 0 ≤ l) (h1 : l ≤ h) (h2 : h ≤ rows.length) : slicePsA P el rows l h hi none e σ K = K (.ps ((rows.drop l.toNat).take (h - l).toNat)) e σ := by simp [slicePsA, h0, h1, h2]
@[go_sem] theorem slicePsA_some (el : Nat) (rows : List (List AV)) (l h : Int) (hi : AV) (k : IntKind) (m : Int) : slicePsA P el rows l h (some hi) (some (.lit (.int k m))) e σ K =
    (0 ≤ l ∧ l ≤ h ∧ h ≤ rows.length ∧ m = l ∧ h = l ∧ withTI P el fun j => K (.os σ.n 0 0) e (σ.new (.flat j.cells []))) := by simp [slicePsA, bndA]
@[go_sem] theorem sliceA_str (t : TypeId) (s : ByteArray) (lo hi : Option AV) : sliceA P t (.lit (.string s)) lo hi none e σ K =
    withTI P t fun i => i.str = true ∧ bndA 0 lo fun l => bndA s.size hi fun h => 0 ≤ l ∧ l ≤ h ∧ h ≤ s.size ∧ K (.lit (.string (s.extract l.toNat h.toNat))) e σ := by simp [sliceA]
@[go_sem] theorem bndA_none (d : Int) (Kb : Int → Prop) : bndA d none Kb = Kb d := rfl
@[go_sem] theorem bndA_some (d : Int) (k : IntKind) (n : Int) (Kb : Int → Prop) : bndA d (some (.lit (.int k n))) Kb = Kb n := rfl

def convP (d : Option TypeDesc) (n : Int) (e : Env) (σ : St) (K : KT) : Prop :=
  match d with
  | some (.int k) => K (.lit (.int k (k.wrap n))) e σ
  | _ => False
@[go_sem] theorem convA_int (d : TypeId) (k : IntKind) (n : Int) : convA P d (.lit (.int k n)) e σ K = convP (P.underlying d) n e σ K := by
  unfold convA convP
  split <;> simp_all
@[go_sem] theorem convP_int (k : IntKind) (n : Int) : convP (some (.int k)) n e σ K = K (.lit (.int k (k.wrap n))) e σ := rfl


/-! Structs and slices, built -/

def fillK (place : Nat → Option (Nat × Nat)) (cells : List AV) (parts : List (Nat × AV)) (Kc : List AV → Prop) : Prop :=
  match fillA place cells parts with
  | some cs => Kc cs
  | none => False
def fillQ (place : Nat → Option (Nat × Nat)) (at_ : Option (Nat × Nat)) (cs : Option (List AV)) (cells : List AV) (rest : List (Nat × AV)) (Kc : List AV → Prop) : Prop :=
  match at_, cs with
  | some (off, size), some cs => if cs.length = size ∧ off + cs.length ≤ cells.length then fillK place (splice cells off cs) rest Kc else False
  | _, _ => False
@[go_sem] theorem fillK_nil (place : Nat → Option (Nat × Nat)) (cells : List AV) (Kc : List AV → Prop) : fillK place cells [] Kc = Kc cells := rfl
@[go_sem] theorem fillK_cons (place : Nat → Option (Nat × Nat)) (cells : List AV) (i : Nat) (v : AV) (rest : List (Nat × AV)) (Kc : List AV → Prop) :
    fillK place cells ((i, v) :: rest) Kc = fillQ place (place i) (avCells v) cells rest Kc := by
  unfold fillK fillQ
  simp only [fillA]
  cases place i with
  | none => rfl
  | some p =>
    cases avCells v with
    | none => rfl
    | some cs =>
      by_cases hc : cs.length = p.2 ∧ p.1 + cs.length ≤ cells.length
      · simp only [if_pos hc]; rfl
      · simp only [if_neg hc]
@[go_sem] theorem fillQ_some (place : Nat → Option (Nat × Nat)) (off size : Nat) (cs cells : List AV) (rest : List (Nat × AV)) (Kc : List AV → Prop) (h : cs.length = size) (h' : off + cs.length ≤ cells.length) :
    fillQ place (some (off, size)) (some cs) cells rest Kc = fillK place (splice cells off cs) rest Kc := by simp [fillQ, h, h'] ; intro h2; omega
@[go_sem] theorem splice_eq (l : List AV) (c : Nat) (xs : List AV) : splice l c xs = l.take c ++ xs ++ l.drop (c + xs.length) := rfl
theorem fillK_id (place : Nat → Option (Nat × Nat)) (cells cells' : List AV) (parts parts' : List (Nat × AV)) (Kc : List AV → Prop) (h : cells = cells') (h' : parts = parts') : fillK place cells parts Kc = fillK place cells' parts' Kc := by rw [h, h']
attribute [congr] fillK_id

@[go_sem] theorem partsE_nil : partsE e [] = [] := rfl
@[go_sem] theorem partsE_cons (i : Nat) (x : Operand) (rest : List (Nat × Operand)) : partsE e ((i, x) :: rest) = (i, evA e x) :: partsE e rest := rfl

def fieldsOk (P : Program) : List (Nat × Nat) → Prop
  | [] => True
  | f :: fs => (tiOf P f.2).isSome = true ∧ fieldsOk P fs
@[go_sem] theorem fieldsOk_nil : fieldsOk P [] = True := rfl
@[go_sem] theorem fieldsOk_cons (f : Nat × Nat) (fs : List (Nat × Nat)) : fieldsOk P (f :: fs) = ((tiOf P f.2).isSome = true ∧ fieldsOk P fs) := rfl
theorem fieldsOk_iff : ∀ l : List (Nat × Nat), fieldsOk P l = ∀ f ∈ l, (tiOf P f.2).isSome
  | [] => by simp [fieldsOk]
  | f :: fs => by simp only [fieldsOk, fieldsOk_iff fs]; simp
def placeF (P : Program) (fs : List (Nat × Nat)) (k : Nat) : Option (Nat × Nat) := (fs[k]?).bind fun f => (tiOf P f.2).map fun j => (f.1, j.cells)
@[go_sem] theorem placeF_eq (fs : List (Nat × Nat)) (k : Nat) : placeF P fs k = (fs[k]?).bind fun f => (tiOf P f.2).map fun j => (f.1, j.cells) := rfl
@[go_sem] theorem buildA_eq (t : TypeId) (parts : List (Nat × AV)) : buildA P t parts e σ K = withTI P t fun i => i.fields ≠ [] ∧ fieldsOk P i.fields ∧ fillK (placeF P i.fields) (i.zero.map .lit) parts (fun cs => K (.agg cs) e σ) := by
  unfold buildA fillK
  congr 1
  funext i
  rw [fieldsOk_iff]
  rfl
def placeS (n c : Nat) (i : Nat) : Option (Nat × Nat) := if i < n then some (i * c, c) else none
@[go_sem] theorem placeS_eq (n c i : Nat) (h : i < n) : placeS n c i = some (i * c, c) := by simp [placeS, h]
def rowsN : Nat → Nat → List AV → List (List AV)
  | 0, _, _ => []
  | n + 1, c, l => l.take c :: rowsN n c (l.drop c)
@[go_sem] theorem rowsN_zero (c : Nat) (l : List AV) : rowsN 0 c l = [] := rfl
@[go_sem] theorem rowsN_succ (n c : Nat) (l : List AV) : rowsN (n + 1) c l = l.take c :: rowsN n c (l.drop c) := rfl
theorem rowsN_eq : ∀ (n c : Nat) (l : List AV), rowsN n c l = (List.range n).map fun i => (l.drop (i * c)).take c
  | 0, _, _ => rfl
  | n + 1, c, l => by
    rw [rowsN_succ, rowsN_eq n c (l.drop c), List.range_succ_eq_map]
    simp only [List.map_cons, List.map_map, Nat.zero_mul, List.drop_zero]
    congr 1
    apply List.map_congr_left
    intro i _
    simp only [Function.comp, List.drop_drop]
    congr 2
    rw [Nat.succ_mul]; omega
def anyN : Nat → List AV
  | 0 => []
  | n + 1 => .any :: anyN n
@[go_sem] theorem anyN_zero : anyN 0 = [] := rfl
@[go_sem] theorem anyN_succ (n : Nat) : anyN (n + 1) = .any :: anyN n := rfl
theorem anyN_eq : ∀ n, anyN n = List.replicate n .any
  | 0 => rfl
  | n + 1 => by rw [anyN_succ, anyN_eq n]; rfl
def bslP (P : Program) (sl : Option Nat) (n : Nat) (parts : List (Nat × AV)) (e : Env) (σ : St) (K : KT) : Prop :=
  match sl with
  | some el => withTI P el fun j => 0 < j.cells ∧ j.zero.length = j.cells ∧ n * j.cells ≤ 1000000 ∧
      fillK (placeS n j.cells) (anyN (n * j.cells)) parts (fun l => (∀ a ∈ l, Flat a) ∧ K (.os σ.n 0 n) e (σ.new (.flat j.cells (rowsN n j.cells l))))
  | none => False
@[go_sem] theorem buildSliceA_eq (t : TypeId) (n : Nat) (parts : List (Nat × AV)) : buildSliceA P t n parts e σ K = withTI P t fun i => bslP P i.slice n parts e σ K := by
  unfold buildSliceA bslP
  congr 1
  funext i
  cases i.slice with
  | none => rfl
  | some el =>
    simp only
    congr 1
    funext j
    rw [anyN_eq]
    simp only [rowsN_eq]
    rfl
@[go_sem] theorem bslP_some (el n : Nat) (parts : List (Nat × AV)) : bslP P (some el) n parts e σ K = withTI P el fun j => 0 < j.cells ∧ j.zero.length = j.cells ∧ n * j.cells ≤ 1000000 ∧
      fillK (placeS n j.cells) (anyN (n * j.cells)) parts (fun l => (∀ a ∈ l, Flat a) ∧ K (.os σ.n 0 n) e (σ.new (.flat j.cells (rowsN n j.cells l)))) := rfl
end
end Go.Proofs.Qqz
