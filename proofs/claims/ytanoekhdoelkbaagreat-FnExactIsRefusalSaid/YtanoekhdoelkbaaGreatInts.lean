/- Lists of whole numbers, and of other things, in memory. -/
import Derived.Test.YtanoekhdoelkbaaGreatStepB
set_option linter.unusedSimpArgs false
set_option linter.unusedVariables false
namespace Go.Proofs.Qqz
open Go

attribute [go_sem] true_or or_true List.take_nil Int.cast_ofNat_Int Option.some.injEq TypeDesc.slice.injEq TypeDesc.pointer.injEq exists_eq List.take_length List.map_cons List.map_nil List.length_cons List.length_nil List.getD_cons_zero List.getD_cons_succ List.getD_nil List.getElem?_cons_zero List.getElem?_cons_succ List.getElem?_nil Option.bind_some Option.bind_none Option.map_some Option.map_none
  Option.isSome_some Option.getD_some List.length_map true_and and_true and_self decide_eq_true_eq decide_eq_false_iff_not Bool.not_eq_true' Bool.not_eq_false' Bool.not_true Bool.not_false List.drop_zero List.drop_succ_cons List.take_zero List.take_succ_cons List.nil_append List.cons_append List.append_nil
  decide_true decide_false Bool.false_eq_true forall_const implies_true List.mem_cons List.not_mem_nil forall_eq_or_imp false_imp_iff forall_eq Int.toNat_natCast Int.toNat_zero Nat.zero_add Nat.add_zero List.set_cons_zero List.set_cons_succ List.length_append List.length_set List.length_replicate
  Nat.not_lt_zero ne_eq not_false_eq_true not_true_eq_false List.append_toArray Nat.zero_lt_succ if_true if_false exists_eq' List.filterMap_cons List.filterMap_nil List.getElem?_toArray List.drop_nil List.take_nil

def intRow (n : Int) : List AV := [.lit (.int .i64 n)]
theorem ints_def (l : List Int) : ints l = AV.ps (l.map intRow) := rfl
@[go_sem] theorem intRow_eq (n : Int) : intRow n = [.lit (.int .i64 n)] := rfl
/-- A slice of things, as data. -/
def sl {α : Type} (f : α → List AV) (l : List α) : AV := .ps (l.map f)
@[go_sem] theorem ints_eq (l : List Int) : ints l = sl intRow l := rfl
theorem sl_eq {α : Type} (f : α → List AV) (l : List α) : sl f l = .ps (l.map f) := rfl
/-- A block of things. -/
def bl {α : Type} (f : α → List AV) (wd : Nat) (l : List α) : Blk := .flat wd (l.map f)

@[go_sem] theorem ps_take_map {α : Type} (f : α → List AV) (l : List α) (n : Nat) : AV.ps (List.take n (List.map f l)) = sl f (l.take n) := by simp [sl, List.map_take]
@[go_sem] theorem ps_drop_map {α : Type} (f : α → List AV) (l : List α) (n : Nat) : AV.ps (List.drop n (List.map f l)) = sl f (l.drop n) := by simp [sl, List.map_drop]
@[go_sem] theorem ps_take_drop_map {α : Type} (f : α → List AV) (l : List α) (n k : Nat) : AV.ps (List.take n (List.drop k (List.map f l))) = sl f ((l.drop k).take n) := by simp [sl, List.map_take, List.map_drop]
@[go_sem] theorem rows_wd {α : Type} (f : α → List AV) (l : List α) (n : Nat) (h : ∀ x, n = (f x).length) : (∀ row ∈ l.map f, n = row.length) = True := by
  apply eq_true
  intro row hr
  obtain ⟨x, _, rfl⟩ := List.mem_map.1 hr
  exact h x
theorem getD_row {α : Type} [Inhabited α] (f : α → List AV) (l : List α) (i : Nat) (h : i < l.length) : (l.map f).getD i [] = f (l.getD i default) := by
  simp [List.getD, h]

@[go_sem] theorem flat_map_bl {α : Type} (f : α → List AV) (wd : Nat) (l : List α) : Blk.flat wd (List.map f l) = bl f wd l := rfl
theorem getD_int (l : List Int) (i : Nat) : l.getD i default = l.getD i 0 := rfl

theorem wrap_i64 {n : Int} (h0 : -9223372036854775808 ≤ n) (h1 : n ≤ 9223372036854775807) : IntKind.i64.wrap n = n := by
  unfold IntKind.wrap
  have hb : IntKind.i64.bits = 64 := rfl
  have hs : IntKind.i64.signed = true := rfl
  simp only [hb, hs, Bool.true_and]
  by_cases h : 0 ≤ n
  · have : n % 2 ^ 64 = n := Int.emod_eq_of_lt h (by omega)
    rw [this, if_neg]
    simp
    omega
  · have : n % 2 ^ 64 = n + 2 ^ 64 := by
      rw [← Int.add_emod_right, Int.emod_eq_of_lt (by omega) (by omega)]
    rw [this, if_pos]
    · omega
    · simp
      omega

theorem wrap_u64 {n : Int} (h0 : 0 ≤ n) (h1 : n ≤ 18446744073709551615) : IntKind.u64.wrap n = n := by
  unfold IntKind.wrap
  have hb : IntKind.u64.bits = 64 := rfl
  have hs : IntKind.u64.signed = false := rfl
  simp only [hb, hs, Bool.false_and]
  have : n % 2 ^ 64 = n := Int.emod_eq_of_lt h0 (by omega)
  rw [this]; simp

section
variable (P : Program) (e : Env) (σ : St) (K : KT) {α : Type} (f : α → List AV)

@[go_sem] theorem lenA_sl (t : TypeId) (l : List α) : lenA P t (sl f l) e σ K = withTI P t fun i => i.slice.isSome = true ∧ K (.lit (.int .i64 l.length)) e σ := by
  simp [sl, lenA_ps]
@[go_sem] theorem indexP_sl [Inhabited α] (el : Nat) (l : List α) (n : Int) (h0 : 0 ≤ n) (h1 : n < l.length) : indexP P (some el) (sl f l) n e σ K = withTI P el fun j => (f (l.getD n.toNat default)).length = j.cells ∧ K (.pa (f (l.getD n.toNat default)) 0) e σ := by
  rw [sl_eq, indexP_ps _ _ _ _ _ _ _ h0 (by simpa using h1), getD_row f l n.toNat (by omega)]
@[go_sem] theorem slicePsA_sl (el : Nat) (l : List α) (a b : Int) (hi : Option AV) (h0 : 0 ≤ a) (h1 : a ≤ b) (h2 : b ≤ l.length) : slicePsA P el (l.map f) a b hi none e σ K = K (sl f ((l.drop a.toNat).take (b - a).toNat)) e σ := by
  rw [slicePsA_none _ _ _ _ _ _ _ _ _ h0 h1 (by simpa using h2)]
  simp [sl, List.map_take, List.map_drop]
@[go_sem] theorem sliceA_sl (t : TypeId) (l : List α) (lo hi mx : Option AV) : sliceA P t (sl f l) lo hi mx e σ K = withTI P t fun i => slicePsP P i.slice (l.map f) lo hi mx e σ K := rfl
@[go_sem] theorem binA_eq_sl (t : TypeId) (l : List α) : binA P .eql t (sl f l) (.lit (.slice none 0 0)) e σ K = ((∃ el, P.underlying t = some (.slice el)) ∧ ∀ b : Bool, (b = true → l = []) → K (.lit (.bool b)) e σ) := by
  simp [sl, binA_eq_ps]
@[go_sem] theorem boxA_sl (l : List α) : boxA (sl f l) e σ K = K (.ptr σ.n 0 0) e (σ.new (.deep 1 [[sl f l]])) := rfl
@[go_sem] theorem avCells_sl (l : List α) : avCells (sl f l) = some [sl f l] := rfl
@[go_sem] theorem isCell_sl (l : List α) : (sl f l).isCell = true := rfl
@[go_sem] theorem Flat_sl (l : List α) : Flat (sl f l) = True := eq_true .ps

@[go_sem] theorem wdB_bl (wd : Nat) (l : List α) (n : Nat) : wdB (bl f wd l) n = (wd = n) := rfl
@[go_sem] theorem loadB_bl [Inhabited α] (i : TI) (wd : Nat) (l : List α) (r c : Nat) (h : r < l.length) : loadB i (bl f wd l) r c e σ K = loadRow i (f (l.getD r default)) c e σ K := by
  rw [bl, loadB_flat _ _ _ _ _ _ _ _ (by simpa using h), getD_row f l r h]
/-- A whole number is stored. -/
@[go_sem] theorem storeB_ints (i : TI) (n : Int) (l : List Int) (id r : Nat) (h : r < l.length) : storeB i (some [.lit (.int .i64 n)]) (bl intRow 1 l) id r 0 e σ K = (1 = i.cells ∧ K .any e (σ.put id (bl intRow 1 (l.set r n)))) := by
  rw [bl, storeB_flat _ _ _ _ _ _ _ _ _ _ (by simpa using h) (by simp)]
  have e1 : splice ((l.map intRow).getD r []) 0 [.lit (.int .i64 n)] = intRow n := by
    rw [getD_row intRow l r h]
    simp [splice, intRow]
  rw [e1, ← List.map_set]
  simp [bl, go_sem, AV.isCell]
theorem makeI_ints (n : Nat) : Blk.flat 1 (List.replicate n [.lit (.int .i64 0)]) = bl intRow 1 (List.replicate n 0) := by simp [bl, intRow]
attribute [go_sem] makeI_ints
@[go_sem] theorem rowsOf_sl (l : List α) : rowsOf σ (sl f l) = some (l.map f) := rfl
@[go_sem] theorem rowsOf_nil : rowsOf σ (.lit (.slice none 0 0)) = some [] := rfl
@[go_sem] theorem frzU_sl (m : Nat) (u : Fu) (top : Bool) (l : List α) : frzU m σ (.s u) top (sl f l) = sl f l := rfl
@[go_sem] theorem frzOs_bl (m : Nat) (u : Fu) (wd off len : Nat) (l : List α) (h : off + len ≤ l.length) : frzOs m σ u (bl f wd l) off len = sl f ((l.drop off).take len) := by
  rw [bl, frzOs_flat _ _ _ _ _ _ _ (by simpa using h)]
  simp [sl, List.map_take, List.map_drop]
@[go_sem] theorem fzB_bl (wd off len : Nat) (l : List α) (h : off + len ≤ l.length) : fzB (bl f wd l) off len = sl f ((l.drop off).take len) := by
  rw [bl, fzB_flat _ _ _ _ (by simpa using h)]
  simp [sl, List.map_take, List.map_drop]
@[go_sem] theorem nlV_sl (k : Nat) (l : List α) : nlV k (sl f l) = sl f l := by cases k <;> rfl
theorem ps_nil : AV.ps [] = sl f [] := rfl
@[go_sem] theorem fzV_sl (F : List Nat) (l : List α) : fzV F σ 6 (sl f l) = sl f l := rfl
@[go_sem] theorem fzV_sl5 (F : List Nat) (l : List α) : fzV F σ 5 (sl f l) = sl f l := rfl
/-- What an own slice holds. -/
def rowsB (B : Blk) (off len : Nat) : Option (List (List AV)) :=
  match B with
  | .flat _ rows => if off + len ≤ rows.length then some ((rows.drop off).take len) else none
  | _ => none
@[go_sem] theorem rowsOf_os (id off len : Nat) : rowsOf σ (.os id off len) = rowsB (σ.h id) off len := by
  cases hB : σ.h id <;> simp [rowsOf, rowsB, hB]
@[go_sem] theorem rowsB_bl (wd off len : Nat) (l : List α) (h : off + len ≤ l.length) : rowsB (bl f wd l) off len = some (((l.drop off).take len).map f) := by
  simp [rowsB, bl, h, List.map_take, List.map_drop]
@[go_sem] theorem rowsB_flat (wd off len : Nat) (rows : List (List AV)) (h : off + len ≤ rows.length) : rowsB (.flat wd rows) off len = some ((rows.drop off).take len) := by
  simp [rowsB, h]

/-- The next part of an append. -/
def appO (x : AV) (new : Option (List (List AV))) (ne : Prop) (j : TI) (e : Env) (σ : St) (K : KT) : Prop :=
  match new with
  | none => False
  | some new => (∀ row ∈ new, row.length = j.cells ∧ ∀ a ∈ row, a.isCell = true) ∧
    match x with
    | .lit (.slice none 0 0) => new.length ≤ 4294967296 ∧ K (.os σ.n 0 new.length) e (σ.new (.flat j.cells new))
    | .os id off len => off = 0 ∧ len + new.length ≤ 4294967296 ∧
      match σ.h id with
      | .flat wd rows => wd = j.cells ∧ len ≤ rows.length ∧ ne ∧ K (.os σ.n 0 (len + new.length)) e ((σ.put id .dead).new (.flat wd (rows.take len ++ new)))
      | _ => False
    | _ => False
def apartA (x y : AV) : Prop :=
  match x with
  | .os id _ _ => ∀ off' len', y ≠ .os id off' len'
  | _ => True
def appP (P : Program) (sl : Option Nat) (x y : AV) (e : Env) (σ : St) (K : KT) : Prop :=
  match sl with
  | some el => withTI P el fun j => 0 < j.cells ∧ j.zero.length = j.cells ∧ j.bytes ≤ 4096 ∧ appO x (rowsOf σ y) (apartA x y) j e σ K
  | none => False
@[go_sem] theorem appendA_eq (t u : TypeId) (x y : AV) : appendA P t u x y e σ K = withTI P t fun i => (withTI P u fun i2 => i2.slice.isSome = true) ∧ appP P i.slice x y e σ K := by
  unfold appendA appP appO apartA
  congr 1
  funext i
  congr 1
  cases i.slice with
  | none => rfl
  | some el =>
    simp only
    congr 1
    funext j
    congr 3
    cases rowsOf σ y with
    | none => rfl
    | some new =>
      simp only
      congr 1
      cases x with
      | lit v => cases v with
        | slice a n m => cases a with
          | none => cases n <;> cases m <;> rfl
          | some a => rfl
        | _ => rfl
      | ps rows => cases rows <;> simp
      | _ => rfl
@[go_sem] theorem appP_some (el : Nat) (x y : AV) : appP P (some el) x y e σ K = withTI P el fun j => 0 < j.cells ∧ j.zero.length = j.cells ∧ j.bytes ≤ 4096 ∧ appO x (rowsOf σ y) (apartA x y) j e σ K := rfl
@[go_sem] theorem apartA_os_sl (id off len : Nat) (l : List α) : apartA (.os id off len) (sl f l) = True := by simp [apartA, sl]
@[go_sem] theorem apartA_os_ps (id off len : Nat) (l : List (List AV)) : apartA (.os id off len) (.ps l) = True := by simp [apartA]
@[go_sem] theorem apartA_os_nil (id off len : Nat) : apartA (.os id off len) (.lit (.slice none 0 0)) = True := by simp [apartA]
@[go_sem] theorem apartA_os_os (id off len id' off' len' : Nat) : apartA (.os id off len) (.os id' off' len') = (¬ id' = id) := by
  apply propext
  constructor
  · intro h he; subst he; exact h off' len' rfl
  · intro h o l he; injection he with h1 h2 h3; exact h h1
@[go_sem] theorem appO_nil (new : List (List AV)) (ne : Prop) (j : TI) (h : new.length ≤ 4294967296) : appO (.lit (.slice none 0 0)) (some new) ne j e σ K = ((∀ row ∈ new, row.length = j.cells ∧ ∀ a ∈ row, a.isCell = true) ∧ K (.os σ.n 0 new.length) e (σ.new (.flat j.cells new))) := by simp [appO, h]
def appB (B : Blk) (id len : Nat) (new : List (List AV)) (ne : Prop) (j : TI) (e : Env) (σ : St) (K : KT) : Prop :=
  match B with
  | .flat wd rows => wd = j.cells ∧ len ≤ rows.length ∧ ne ∧ K (.os σ.n 0 (len + new.length)) e ((σ.put id .dead).new (.flat wd (rows.take len ++ new)))
  | _ => False
@[go_sem] theorem appO_os (id len : Nat) (new : List (List AV)) (ne : Prop) (j : TI) (h : len + new.length ≤ 4294967296) : appO (.os id 0 len) (some new) ne j e σ K = ((∀ row ∈ new, row.length = j.cells ∧ ∀ a ∈ row, a.isCell = true) ∧ appB (σ.h id) id len new ne j e σ K) := by
  simp only [appO, appB, h, true_and]
/-- Whole numbers are appended to whole numbers. -/
@[go_sem] theorem appB_bl (wd id len : Nat) (l m : List α) (ne : Prop) (j : TI) (h : len ≤ l.length) : appB (bl f wd l) id len (m.map f) ne j e σ K = (wd = j.cells ∧ ne ∧ K (.os σ.n 0 (len + m.length)) e ((σ.put id .dead).new (bl f wd (l.take len ++ m)))) := by
  simp [appB, bl, h, List.map_take]
@[go_sem] theorem appB_flat (wd id len : Nat) (rows new : List (List AV)) (ne : Prop) (j : TI) (h : len ≤ rows.length) : appB (.flat wd rows) id len new ne j e σ K = (wd = j.cells ∧ ne ∧ K (.os σ.n 0 (len + new.length)) e ((σ.put id .dead).new (.flat wd (rows.take len ++ new)))) := by
  simp [appB, h]
@[go_sem] theorem appB_int (id len : Nat) (l : List Int) (n : Int) (ne : Prop) (j : TI) (h : len ≤ l.length) : appB (bl intRow 1 l) id len [[.lit (.int .i64 n)]] ne j e σ K = (1 = j.cells ∧ ne ∧ K (.os σ.n 0 (len + 1)) e ((σ.put id .dead).new (bl intRow 1 (l.take len ++ [n])))) :=
  appB_bl e σ K intRow 1 id len l [n] ne j h
@[go_sem] theorem cells_ok_ints (l : List Int) (n : Nat) : (∀ row ∈ l.map intRow, row.length = n ∧ ∀ a ∈ row, a.isCell = true) = (l = [] ∨ 1 = n) := by
  apply propext
  cases l with
  | nil => simp
  | cons x l =>
    simp [intRow, AV.isCell]
    intro h _ _; exact h
@[go_sem] theorem St_put_put (i j : Nat) (B C : Blk) (h : i ≤ j) (h' : j ≤ i) : (σ.put i B).put j C = σ.put j C := by
  have : i = j := by omega
  subst this
  simp only [St.put]
  congr 1
  funext k
  split <;> rfl
theorem put_self (i : Nat) (B : Blk) (h : σ.h i = B) : σ.put i B = σ := by
  subst h
  obtain ⟨n, hh⟩ := σ
  simp only [St.put]
  congr 1
  funext k
  split
  · rename_i h; subst h; rfl
  · rfl
end
end Go.Proofs.Qqz
