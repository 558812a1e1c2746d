/- Equations by which the abstract walk is carried out. -/
import Derived.Test.YtanoekhdoelkbaaGreatKc
set_option linter.unusedSimpArgs false
set_option linter.unusedVariables false
namespace Go.Proofs.Qqz
open Go

section
variable (P : Program) (ops : Array Oper) (Q : Env → St → Prop) (e : Env) (σ : St) (K : KT) (rest : List Oper)

@[go_sem ↓] theorem opsA_nil : opsA P ops [] Q e σ = Q e σ := by simp only [opsA]
@[go_sem ↓] theorem opsA_cons0 (d : Option Tmp) (op : Op) (ty : TypeId) (pos : String) (af : Array Edge) :
    opsA P ops (⟨d, op, ty, pos, af, none⟩ :: rest) Q e σ = opA P op e σ (konA P ops d rest Q) := by simp only [opsA]; rfl

/-- What follows an operation. -/
def konF (P : Program) (ops : Array Oper) (dst : Option Tmp) (rest : List Oper) (Q : Env → St → Prop) : KT := fun av e σ => opsF P ops rest Q (putE e dst av) σ
@[go_sem ↓] theorem opsF_nil : opsF P ops [] Q e σ = Q e σ := by simp only [opsF]
@[go_sem ↓] theorem opsF_cons0 (d : Option Tmp) (op : Op) (ty : TypeId) (pos : String) (af : Array Edge) :
    opsF P ops (⟨d, op, ty, pos, af, none⟩ :: rest) Q e σ = opF P op e σ (konF P ops d rest Q) := by simp only [opsF]; rfl
@[go_sem ↓] theorem konF_apply (d : Option Tmp) (v : AV) : konF P ops d rest Q v e σ = opsF P ops rest Q (putE e d v) σ := rfl
@[go_sem ↓] theorem opF_call (f : Operand) (args : Array Operand) (ts : Array TypeId) : opF P (.call ⟨.value f, args, ts⟩) e σ K = callF P (evA e f) (args.toList.map (evA e)) e σ K := rfl
theorem callF_id (f f' : AV) (l l' : List AV) (hf : f = f') (hl : l = l') : callF P f l e σ K = callF P f' l' e σ K := by rw [hf, hl]
theorem opsF_id (l : List Oper) : opsF P ops l Q e σ = opsF P ops l Q e σ := rfl
theorem konF_id (d : Option Tmp) : konF P ops d rest Q = konF P ops d rest Q := rfl
attribute [congr] callF_id opsF_id konF_id
/-- A guarded operation: its guard's value at hand. -/
def gF (P : Program) (ops : Array Oper) (v : AV) (want : Bool) (op : Op) (d : Option Tmp) (rest : List Oper) (Q : Env → St → Prop) (e : Env) (σ : St) : Prop :=
  match v with
  | .lit (.bool b) => (b = want → opF P op e σ (konF P ops d rest Q)) ∧ (b = (!want) → opsF P ops rest Q (putE e d (.lit undef)) σ)
  | .lit (.tuple _) => opsF P ops rest Q (putE e d (.lit undef)) σ
  | _ => False
def gslF (ops : Array Oper) (g : Nat) (K : Tmp → Prop) : Prop :=
  match gsl ops g with
  | some d => K d
  | none => False
@[go_sem ↓] theorem opsF_consg (d : Option Tmp) (op : Op) (ty : TypeId) (pos : String) (af : Array Edge) (g : Nat) (want : Bool) :
    opsF P ops (⟨d, op, ty, pos, af, some (g, want)⟩ :: rest) Q e σ = gslF ops g (fun d' => gF P ops (e d') want op d rest Q e σ) := by
  simp only [opsF, gslF]
  cases gsl ops g with
  | none => rfl
  | some d' =>
    simp only [gF]
    cases e d' with
    | lit v => cases v <;> rfl
    | _ => rfl
@[go_sem ↓] theorem gslF_lit (l : List Oper) (g : Nat) (K : Tmp → Prop) : gslF ⟨l⟩ g K = (match (l[g]?).bind (·.dst) with | some d => K d | none => False) := by
  simp [gslF, gsl]
@[go_sem] theorem gF_tt (op : Op) (d : Option Tmp) : gF P ops (.lit (.bool true)) true op d rest Q e σ = opF P op e σ (konF P ops d rest Q) := by simp [gF]
@[go_sem] theorem gF_ff (op : Op) (d : Option Tmp) : gF P ops (.lit (.bool false)) false op d rest Q e σ = opF P op e σ (konF P ops d rest Q) := by simp [gF]
@[go_sem] theorem gF_tf (op : Op) (d : Option Tmp) : gF P ops (.lit (.bool true)) false op d rest Q e σ = opsF P ops rest Q (putE e d (.lit undef)) σ := by simp [gF]
@[go_sem] theorem gF_ft (op : Op) (d : Option Tmp) : gF P ops (.lit (.bool false)) true op d rest Q e σ = opsF P ops rest Q (putE e d (.lit undef)) σ := by simp [gF]
@[go_sem] theorem gF_undef (want : Bool) (op : Op) (d : Option Tmp) : gF P ops (.lit undef) want op d rest Q e σ = opsF P ops rest Q (putE e d (.lit undef)) σ := rfl
theorem gF_id (v v' : AV) (want : Bool) (op : Op) (d : Option Tmp) (hv : v = v') : gF P ops v want op d rest Q e σ = gF P ops v' want op d rest Q e σ := by rw [hv]
attribute [congr] gF_id
/-- A guarded operation: its guard's value at hand. -/
def gA (P : Program) (ops : Array Oper) (v : AV) (want : Bool) (op : Op) (d : Option Tmp) (rest : List Oper) (Q : Env → St → Prop) (e : Env) (σ : St) : Prop :=
  match v with
  | .lit (.bool b) => (b = want → opA P op e σ (konA P ops d rest Q)) ∧ (b = (!want) → opsA P ops rest Q (putE e d (.lit undef)) σ)
  | .lit (.tuple _) => opsA P ops rest Q (putE e d (.lit undef)) σ
  | _ => False

def gslA (ops : Array Oper) (g : Nat) (K : Tmp → Prop) : Prop :=
  match gsl ops g with
  | some d => K d
  | none => False

@[go_sem ↓] theorem opsA_consg (d : Option Tmp) (op : Op) (ty : TypeId) (pos : String) (af : Array Edge) (g : Nat) (want : Bool) :
    opsA P ops (⟨d, op, ty, pos, af, some (g, want)⟩ :: rest) Q e σ = gslA ops g (fun d' => gA P ops (e d') want op d rest Q e σ) := by
  simp only [opsA, gslA]
  cases gsl ops g with
  | none => rfl
  | some d' =>
    simp only [gA]
    cases e d' with
    | lit v => cases v <;> rfl
    | _ => rfl

@[go_sem ↓] theorem gslA_lit (l : List Oper) (g : Nat) (K : Tmp → Prop) : gslA ⟨l⟩ g K = (match (l[g]?).bind (·.dst) with | some d => K d | none => False) := by
  simp [gslA, gsl]

theorem gA_bool (b want : Bool) (op : Op) (d : Option Tmp) : gA P ops (.lit (.bool b)) want op d rest Q e σ =
    ((b = want → opA P op e σ (konA P ops d rest Q)) ∧ (b = (!want) → opsA P ops rest Q (putE e d (.lit undef)) σ)) := rfl
@[go_sem] theorem gA_tt (op : Op) (d : Option Tmp) : gA P ops (.lit (.bool true)) true op d rest Q e σ = opA P op e σ (konA P ops d rest Q) := by simp [gA]
@[go_sem] theorem gA_ff (op : Op) (d : Option Tmp) : gA P ops (.lit (.bool false)) false op d rest Q e σ = opA P op e σ (konA P ops d rest Q) := by simp [gA]
@[go_sem] theorem gA_tf (op : Op) (d : Option Tmp) : gA P ops (.lit (.bool true)) false op d rest Q e σ = opsA P ops rest Q (putE e d (.lit undef)) σ := by simp [gA]
@[go_sem] theorem gA_ft (op : Op) (d : Option Tmp) : gA P ops (.lit (.bool false)) true op d rest Q e σ = opsA P ops rest Q (putE e d (.lit undef)) σ := by simp [gA]
@[go_sem] theorem gA_undef (want : Bool) (op : Op) (d : Option Tmp) : gA P ops (.lit undef) want op d rest Q e σ = opsA P ops rest Q (putE e d (.lit undef)) σ := rfl

@[go_sem ↓] theorem konA_apply (d : Option Tmp) (v : AV) : konA P ops d rest Q v e σ = opsA P ops rest Q (putE e d v) σ := rfl
@[go_sem ↓] theorem putE_some (i : Nat) (v : AV) : putE e (some i) v = upd e i v := rfl
@[go_sem ↓] theorem putE_none (v : AV) : putE e none v = e := rfl
@[go_sem ↓] theorem upd_get (i : Nat) (v : AV) (j : Nat) : upd e i v j = if j = i then v else e j := rfl
@[go_sem ↓] theorem evA_tmp (t : Nat) : evA e (.tmp t) = e t := rfl
@[go_sem ↓] theorem evA_const (v : Value) : evA e (.const v) = .lit v := rfl
@[go_sem ↓] theorem evA_func (f : Nat) : evA e (.func f) = .clo f [] := rfl
@[go_sem] theorem initE_get (l : List AV) (i : Nat) : initE l i = l.getD i .any := rfl

@[go_sem ↓] theorem opA_move (x : Operand) : opA P (.move x) e σ K = K (evA e x) e σ := rfl
@[go_sem ↓] theorem opA_assign (x : Operand) : opA P (.assign x) e σ K = K (evA e x) e σ := rfl
@[go_sem ↓] theorem opA_pick (c a b : Operand) : opA P (.pick c a b) e σ K = pickA (evA e c) (evA e a) (evA e b) e σ K := rfl
theorem pickA_bool (t : Bool) (a b : AV) : pickA (.lit (.bool t)) a b e σ K = ((t = true → K a e σ) ∧ (t = false → K b e σ)) := rfl
@[go_sem] theorem pickA_t (a b : AV) : pickA (.lit (.bool true)) a b e σ K = K a e σ := by simp [pickA]
@[go_sem] theorem pickA_f (a b : AV) : pickA (.lit (.bool false)) a b e σ K = K b e σ := by simp [pickA]
@[go_sem ↓] theorem opA_alloc (t : TypeId) : opA P (.alloc t) e σ K = withTI P t fun i => K (.ptr σ.n 0 0) e (σ.new (.deep i.zero.length [i.zero.map .lit])) := rfl
@[go_sem ↓] theorem opA_box (t : TypeId) (x : Operand) : opA P (.box t x) e σ K = boxA (evA e x) e σ K := rfl
@[go_sem] theorem boxA_agg (l : List AV) : boxA (.agg l) e σ K = K (.ptr σ.n 0 0) e (σ.new (.deep l.length [l])) := rfl
@[go_sem] theorem boxA_ps (l : List (List AV)) : boxA (.ps l) e σ K = K (.ptr σ.n 0 0) e (σ.new (.deep 1 [[.ps l]])) := rfl
@[go_sem] theorem boxA_os (i o l : Nat) : boxA (.os i o l) e σ K = K (.ptr σ.n 0 0) e (σ.new (.deep 1 [[.os i o l]])) := rfl
@[go_sem] theorem boxA_pa (r : List AV) (c : Nat) : boxA (.pa r c) e σ K = K (.ptr σ.n 0 0) e (σ.new (.deep 1 [[.pa r c]])) := rfl
@[go_sem] theorem boxA_ptr (i o l : Nat) : boxA (.ptr i o l) e σ K = K (.ptr σ.n 0 0) e (σ.new (.deep 1 [[.ptr i o l]])) := rfl
@[go_sem] theorem boxA_int (k : IntKind) (n : Int) : boxA (.lit (.int k n)) e σ K = K (.ptr σ.n 0 0) e (σ.new (.deep 1 [[.lit (.int k n)]])) := rfl
@[go_sem] theorem boxA_bool (b : Bool) : boxA (.lit (.bool b)) e σ K = K (.ptr σ.n 0 0) e (σ.new (.deep 1 [[.lit (.bool b)]])) := rfl
@[go_sem] theorem boxA_str (s : ByteArray) : boxA (.lit (.string s)) e σ K = K (.ptr σ.n 0 0) e (σ.new (.deep 1 [[.lit (.string s)]])) := rfl
@[go_sem ↓] theorem opA_build (t : TypeId) (ps : Array (Nat × Operand)) : opA P (.build t ps) e σ K = buildA P t (partsE e ps.toList) e σ K := rfl
@[go_sem ↓] theorem opA_buildSlice (t : TypeId) (n : Nat) (ps : Array (Nat × Operand)) : opA P (.buildSlice t n ps) e σ K = buildSliceA P t n (partsE e ps.toList) e σ K := rfl
@[go_sem ↓] theorem opA_load (t : TypeId) (x : Operand) : opA P (.load t x) e σ K = loadA P t (evA e x) e σ K := rfl
@[go_sem ↓] theorem opA_store (t : TypeId) (x y : Operand) : opA P (.store t x y) e σ K = storeA P t (evA e x) (evA e y) e σ K := rfl
@[go_sem ↓] theorem opA_nilCheck (x : Operand) : opA P (.nilCheck x) e σ K = nilCheckA (evA e x) e σ K := rfl
@[go_sem] theorem nilCheckA_pa (r : List AV) (c : Nat) : nilCheckA (.pa r c) e σ K = K (.pa r c) e σ := rfl
@[go_sem] theorem nilCheckA_ptr (i r c : Nat) : nilCheckA (.ptr i r c) e σ K = K (.ptr i r c) e σ := rfl
@[go_sem] theorem nilCheckA_clo (f : Nat) (l : List AV) : nilCheckA (.clo f l) e σ K = K (.clo f l) e σ := rfl
@[go_sem ↓] theorem opA_binOp (op : BinOp) (t u : TypeId) (x y : Operand) : opA P (.binOp op t x y u) e σ K = binA P op t (evA e x) (evA e y) e σ K := rfl
@[go_sem] theorem binA_int (op : BinOp) (t : TypeId) (k : IntKind) (a b : Int) : binA P op t (.lit (.int k a)) (.lit (.int k b)) e σ K = intA op k a b e σ K := by simp [binA]
@[go_sem] theorem intA_add (k : IntKind) (a b : Int) : intA .add k a b e σ K = K (.lit (.int k (k.wrap (a + b)))) e σ := rfl
@[go_sem] theorem intA_sub (k : IntKind) (a b : Int) : intA .sub k a b e σ K = K (.lit (.int k (k.wrap (a - b)))) e σ := rfl
@[go_sem] theorem intA_mul (k : IntKind) (a b : Int) : intA .mul k a b e σ K = K (.lit (.int k (k.wrap (a * b)))) e σ := rfl
@[go_sem] theorem intA_quo (k : IntKind) (a b : Int) (h : b ≠ 0) : intA .quo k a b e σ K = K (.lit (.int k (k.wrap (a.tdiv b)))) e σ := by simp [intA, h]
@[go_sem] theorem intA_rem (k : IntKind) (a b : Int) (h : b ≠ 0) : intA .rem k a b e σ K = K (.lit (.int k (a.tmod b))) e σ := by simp [intA, h]
@[go_sem] theorem intA_eql (k : IntKind) (a b : Int) : intA .eql k a b e σ K = K (.lit (.bool (decide (a = b)))) e σ := rfl
@[go_sem] theorem intA_neq (k : IntKind) (a b : Int) : intA .neq k a b e σ K = K (.lit (.bool (!decide (a = b)))) e σ := rfl
@[go_sem] theorem intA_lss (k : IntKind) (a b : Int) : intA .lss k a b e σ K = K (.lit (.bool (decide (a < b)))) e σ := rfl
@[go_sem] theorem intA_leq (k : IntKind) (a b : Int) : intA .leq k a b e σ K = K (.lit (.bool (decide (a ≤ b)))) e σ := rfl
@[go_sem] theorem intA_gtr (k : IntKind) (a b : Int) : intA .gtr k a b e σ K = K (.lit (.bool (decide (b < a)))) e σ := rfl
@[go_sem] theorem intA_geq (k : IntKind) (a b : Int) : intA .geq k a b e σ K = K (.lit (.bool (decide (b ≤ a)))) e σ := rfl
@[go_sem] theorem binA_eq_str (t : TypeId) (a b : ByteArray) : binA P .eql t (.lit (.string a)) (.lit (.string b)) e σ K = K (.lit (.bool (decide (a.toList = b.toList)))) e σ := rfl
@[go_sem] theorem binA_ne_str (t : TypeId) (a b : ByteArray) : binA P .neq t (.lit (.string a)) (.lit (.string b)) e σ K = K (.lit (.bool (!decide (a.toList = b.toList)))) e σ := rfl
@[go_sem] theorem binA_add_str (t : TypeId) (a b : ByteArray) : binA P .add t (.lit (.string a)) (.lit (.string b)) e σ K = (a.size + b.size ≤ 4611686018427387904 ∧ K (.lit (.string (a ++ b))) e σ) := rfl
@[go_sem] theorem binA_eq_bool (t : TypeId) (a b : Bool) : binA P .eql t (.lit (.bool a)) (.lit (.bool b)) e σ K = (P.underlying t = some .bool ∧ K (.lit (.bool (a == b))) e σ) := rfl
@[go_sem] theorem binA_ne_bool (t : TypeId) (a b : Bool) : binA P .neq t (.lit (.bool a)) (.lit (.bool b)) e σ K = (P.underlying t = some .bool ∧ K (.lit (.bool (!(a == b)))) e σ) := rfl
@[go_sem] theorem binA_eq_ps (t : TypeId) (l : List (List AV)) : binA P .eql t (.ps l) (.lit (.slice none 0 0)) e σ K = ((∃ el, P.underlying t = some (.slice el)) ∧ ∀ b : Bool, (b = true → l = []) → K (.lit (.bool b)) e σ) := rfl
@[go_sem] theorem binA_eq_pa (t : TypeId) (r : List AV) (c : Nat) : binA P .eql t (.pa r c) (.lit (.pointer none)) e σ K = ((∃ el, P.underlying t = some (.pointer el)) ∧ K (.lit (.bool false)) e σ) := rfl
@[go_sem] theorem binA_eq_ptr (t : TypeId) (i r c : Nat) : binA P .eql t (.ptr i r c) (.lit (.pointer none)) e σ K = ((∃ el, P.underlying t = some (.pointer el)) ∧ K (.lit (.bool false)) e σ) := rfl
@[go_sem] theorem binA_eq_nil (t : TypeId) : binA P .eql t (.lit (.pointer none)) (.lit (.pointer none)) e σ K = ((∃ el, P.underlying t = some (.pointer el)) ∧ K (.lit (.bool true)) e σ) := rfl
@[go_sem] theorem binA_ne_pa (t : TypeId) (r : List AV) (c : Nat) : binA P .neq t (.pa r c) (.lit (.pointer none)) e σ K = ((∃ el, P.underlying t = some (.pointer el)) ∧ K (.lit (.bool true)) e σ) := rfl
@[go_sem] theorem binA_ne_ptr (t : TypeId) (i r c : Nat) : binA P .neq t (.ptr i r c) (.lit (.pointer none)) e σ K = ((∃ el, P.underlying t = some (.pointer el)) ∧ K (.lit (.bool true)) e σ) := rfl
@[go_sem] theorem binA_ne_nil (t : TypeId) : binA P .neq t (.lit (.pointer none)) (.lit (.pointer none)) e σ K = ((∃ el, P.underlying t = some (.pointer el)) ∧ K (.lit (.bool false)) e σ) := rfl
@[go_sem ↓] theorem opA_unOp (op : UnOp) (t : TypeId) (x : Operand) : opA P (.unOp op t x) e σ K = unA op (evA e x) e σ K := rfl
@[go_sem] theorem unA_not (b : Bool) : unA .not (.lit (.bool b)) e σ K = K (.lit (.bool (!b))) e σ := rfl
@[go_sem] theorem unA_neg (k : IntKind) (n : Int) : unA .neg (.lit (.int k n)) e σ K = K (.lit (.int k (k.wrap (0 - n)))) e σ := rfl
@[go_sem ↓] theorem opA_conv (s d : TypeId) (x : Operand) : opA P (.convert s d x) e σ K = ((P.underlying s).isSome = true ∧ convA P d (evA e x) e σ K) := rfl
@[go_sem ↓] theorem opA_makeFunc (fn : Fn) (a b : Array Operand) : opA P (.makeFunc fn a b) e σ K = makeFuncA fn (a.toList.map (evA e)) (b.toList.map (evA e)) e σ K := rfl
@[go_sem] theorem makeFuncA_func (f : Nat) (l : List AV) : makeFuncA (.func f) [] l e σ K = K (.clo f l) e σ := rfl
@[go_sem ↓] theorem opA_makeSlice (t : TypeId) (l c : Operand) : opA P (.makeSlice t l c) e σ K = makeA P t (evA e l) (evA e c) e σ K := rfl
@[go_sem ↓] theorem opA_slice (t : TypeId) (x : Operand) (l h m : Option Operand) : opA P (.slice t x l h m) e σ K = sliceA P t (evA e x) (l.map (evA e)) (h.map (evA e)) (m.map (evA e)) e σ K := rfl
@[go_sem ↓] theorem opA_fieldAddr (t : TypeId) (x : Operand) (f : Nat) : opA P (.fieldAddr t x f) e σ K = fieldAddrA P t (evA e x) f e σ K := rfl
@[go_sem ↓] theorem opA_field (t : TypeId) (x : Operand) (f : Nat) : opA P (.field t x f) e σ K = fieldA P t (evA e x) f e σ K := rfl
@[go_sem ↓] theorem opA_indexAddr (t : TypeId) (x i : Operand) : opA P (.indexAddr t x i) e σ K = indexAddrA P t (evA e x) (evA e i) e σ K := rfl
@[go_sem ↓] theorem opA_index (t : TypeId) (x i : Operand) : opA P (.index t x i) e σ K = indexA P t (evA e x) (evA e i) e σ K := rfl
@[go_sem ↓] theorem opA_extract (x : Operand) (i : Nat) : opA P (.extract x i) e σ K = extractA (evA e x) i e σ K := rfl
@[go_sem] theorem extractA_tup (l : List AV) (i : Nat) : extractA (.tup l) i e σ K = (i < l.length ∧ K (l.getD i .any) e σ) := rfl
@[go_sem ↓] theorem opA_call (c : Operand) (a : Array Operand) (t : Array TypeId) : opA P (.call ⟨.value c, a, t⟩) e σ K = callV P (evA e c) (a.toList.map (evA e)) e σ K := rfl
@[go_sem ↓] theorem opA_builtin (b : Builtin) (a : Array Operand) (t : Array TypeId) : opA P (.call ⟨.builtin b, a, t⟩) e σ K = builtinA P b t.toList (a.toList.map (evA e)) e σ K := rfl
@[go_sem] theorem callV_clo (f : Nat) (caps args : List AV) : callV P (.clo f caps) args e σ K = ACall P f ((args ++ caps).map (nlV 3)) e σ K := rfl
@[go_sem] theorem builtin_len (t : TypeId) (x : AV) : builtinA P .len [t] [x] e σ K = lenA P t x e σ K := rfl
@[go_sem] theorem builtin_append (t u : TypeId) (x y : AV) : builtinA P .append [t, u] [x, y] e σ K = appendA P t u x y e σ K := rfl
@[go_sem] theorem builtin_min (t : List TypeId) (k : IntKind) (x y : Int) : builtinA P .min t [.lit (.int k x), .lit (.int k y)] e σ K = K (.lit (.int k (if y < x then y else x))) e σ := by simp [builtinA, minA]
@[go_sem] theorem builtin_max (t : List TypeId) (k : IntKind) (x y : Int) : builtinA P .max t [.lit (.int k x), .lit (.int k y)] e σ K = K (.lit (.int k (if y > x then y else x))) e σ := by simp [builtinA, maxA]

/-! Regions drawn -/

/-- Something that holds of a value, and what follows with it. -/
def exQ (F : AV → Prop) (K : AV → Prop) : Prop := ∃ v, F v ∧ K v
theorem exQ.intro {F : AV → Prop} {K : AV → Prop} {v : AV} (h : F v) (hk : K v) : exQ F K := ⟨v, h, hk⟩
@[go_sem] theorem exQ_eq (v : AV) (K : AV → Prop) : exQ (fun u => v = u) K = K v := by simp [exQ]
@[go_sem] theorem exQ_and (c : Prop) (F : AV → Prop) (K : AV → Prop) : exQ (fun u => c ∧ F u) K = (c ∧ exQ F K) := by
  apply propext
  exact ⟨fun ⟨v, ⟨h1, h2⟩, h3⟩ => ⟨h1, v, h2, h3⟩, fun ⟨h1, v, h2, h3⟩ => ⟨v, ⟨h1, h2⟩, h3⟩⟩
/-- The quiet post. -/
def qK (v : AV) (σ0 : St) : KT := fun u _ s => u = v ∧ s = σ0
@[go_sem] theorem qK_same (v u : AV) (e : Env) (σ0 : St) : qK v σ0 u e σ0 = (u = v) := by simp [qK]
/-- The operations still to be looked at, with the rest. -/
def midN (P : Program) (ops : Array Oper) (al late : List Nat) (L : St → Prop) (i : Nat) (op : Op) (d : Option Tmp) (rest : List Oper) (R : Env → Prop) (e : Env) : Prop :=
  exQ (fun v => ∀ σ, L σ → opA P op e σ (qK v σ)) fun v => midA P ops al late L (i + 1) rest R (putE e d v)
def midH (P : Program) (ops : Array Oper) (al late : List Nat) (L : St → Prop) (i : Nat) (v : AV) (want : Bool) (op : Op) (d : Option Tmp) (rest : List Oper) (R : Env → Prop) (e : Env) : Prop :=
  match v with
  | .lit (.bool b) => (b = want → midN P ops al late L i op d rest R e) ∧ (b = (!want) → midA P ops al late L (i + 1) rest R (putE e d (.lit undef)))
  | .lit (.tuple _) => midA P ops al late L (i + 1) rest R (putE e d (.lit undef))
  | _ => False
section
variable (al late : List Nat) (L : St → Prop) (i : Nat) (R : Env → Prop)
@[go_sem ↓] theorem midA_nil : midA P ops al late L i [] R e = R e := rfl
@[go_sem ↓] theorem midA_cons0 (d : Option Tmp) (op : Op) (ty : TypeId) (pos : String) (af : Array Edge) :
    midA P ops al late L i (⟨d, op, ty, pos, af, none⟩ :: rest) R e = if midB al late i = true then midN P ops al late L i op d rest R e else midA P ops al late L (i + 1) rest R e := rfl
@[go_sem ↓] theorem midA_consg (d : Option Tmp) (op : Op) (ty : TypeId) (pos : String) (af : Array Edge) (g : Nat) (want : Bool) :
    midA P ops al late L i (⟨d, op, ty, pos, af, some (g, want)⟩ :: rest) R e = if midB al late i = true then gslA ops g (fun d' => midH P ops al late L i (e d') want op d rest R e) else midA P ops al late L (i + 1) rest R e := by
  simp only [midA, midG, gslA]
  congr 1
  cases gsl ops g with
  | none => rfl
  | some d' =>
    simp only [midH]
    cases e d' with
    | lit v => cases v <;> rfl
    | _ => rfl
@[go_sem] theorem midH_tt (op : Op) (d : Option Tmp) : midH P ops al late L i (.lit (.bool true)) true op d rest R e = midN P ops al late L i op d rest R e := by simp [midH]
@[go_sem] theorem midH_ff (op : Op) (d : Option Tmp) : midH P ops al late L i (.lit (.bool false)) false op d rest R e = midN P ops al late L i op d rest R e := by simp [midH]
@[go_sem] theorem midH_tf (op : Op) (d : Option Tmp) : midH P ops al late L i (.lit (.bool true)) false op d rest R e = midA P ops al late L (i + 1) rest R (putE e d (.lit undef)) := by simp [midH]
@[go_sem] theorem midH_ft (op : Op) (d : Option Tmp) : midH P ops al late L i (.lit (.bool false)) true op d rest R e = midA P ops al late L (i + 1) rest R (putE e d (.lit undef)) := by simp [midH]
@[go_sem] theorem midH_undef (want : Bool) (op : Op) (d : Option Tmp) : midH P ops al late L i (.lit undef) want op d rest R e = midA P ops al late L (i + 1) rest R (putE e d (.lit undef)) := rfl
@[go_sem ↓] theorem midN_one (op : Op) (d : Option Tmp) (σ0 : St) : midN P ops al late (fun s => s = σ0) i op d rest R e = exQ (fun v => opA P op e σ0 (qK v σ0)) fun v => midA P ops al late (fun s => s = σ0) (i + 1) rest R (putE e d v) := by simp [midN]
@[go_sem ↓] theorem midN_two (op : Op) (d : Option Tmp) (σ0 σ1 : St) : midN P ops al late (fun s => s = σ0 ∨ s = σ1) i op d rest R e = exQ (fun v => opA P op e σ0 (qK v σ0) ∧ opA P op e σ1 (qK v σ1)) fun v => midA P ops al late (fun s => s = σ0 ∨ s = σ1) (i + 1) rest R (putE e d v) := by simp [midN]
@[go_sem ↓] theorem midN_five (op : Op) (d : Option Tmp) (σ0 σ1 σ2 σ3 σ4 : St) : midN P ops al late (fun s => s = σ0 ∨ s = σ1 ∨ s = σ2 ∨ s = σ3 ∨ s = σ4) i op d rest R e =
    exQ (fun v => opA P op e σ0 (qK v σ0) ∧ opA P op e σ1 (qK v σ1) ∧ opA P op e σ2 (qK v σ2) ∧ opA P op e σ3 (qK v σ3) ∧ opA P op e σ4 (qK v σ4)) fun v => midA P ops al late (fun s => s = σ0 ∨ s = σ1 ∨ s = σ2 ∨ s = σ3 ∨ s = σ4) (i + 1) rest R (putE e d v) := by simp [midN]
@[go_sem ↓] theorem midB_nil : midB [] [] i = true := rfl
@[go_sem ↓] theorem midB_al (a : Nat) : midB (a :: al) late i = if i = a then false else midB al late i := by
  unfold midB
  simp only [List.contains_cons]
  by_cases h : i = a
  · subst h; simp
  · have h2 : (i == a) = false := by simpa using h
    simp [h2, h]
@[go_sem ↓] theorem midB_late (a : Nat) : midB [] (a :: late) i = if i = a then false else midB [] late i := by
  unfold midB
  simp only [List.contains_cons]
  by_cases h : i = a
  · subst h; simp
  · have h2 : (i == a) = false := by simpa using h
    simp [h2, h]
theorem midA_id (l : List Oper) : midA P ops al late L i l R e = midA P ops al late L i l R e := rfl
theorem midH_id (v v' : AV) (want : Bool) (op : Op) (d : Option Tmp) (hv : v = v') : midH P ops al late L i v want op d rest R e = midH P ops al late L i v' want op d rest R e := by rw [hv]
theorem exQ_id (F F' : AV → Prop) (K : AV → Prop) (h : ∀ v, F v = F' v) : exQ F K = exQ F' K := by rw [funext h]
attribute [congr] midA_id midH_id exQ_id
end

theorem konA_id (d : Option Tmp) : konA P ops d rest Q = konA P ops d rest Q := rfl
theorem opsA_id (l : List Oper) : opsA P ops l Q e σ = opsA P ops l Q e σ := rfl
theorem Sat_id (N : Nat) (c : Code) (Q : Exit → Env → St → Prop) : Sat P N c Q e σ = Sat P N c Q e σ := rfl
theorem thenQ_id (Q : Exit → Env → St → Prop) (K : Env → St → Prop) : thenQ K Q = thenQ K Q := rfl
theorem blockQ_id (i : Nat) (Q : Exit → Env → St → Prop) : blockQ i Q = blockQ i Q := rfl
theorem loopQ_id {T : Type} (I : T → Env → St → Prop) (μ : T → Nat) (t : T) (Q : Exit → Env → St → Prop) : loopQ I μ t Q = loopQ I μ t Q := rfl
theorem retQ_id (rs : List ResultVar) (Kv : AV → St → Prop) : retQ P rs Kv = retQ P rs Kv := rfl
theorem upd_id (i : Nat) (v : AV) : upd e i v = upd e i v := rfl
theorem ACall_id (f : FuncId) (l l' : List AV) (hl : l = l') : ACall P f l e σ K = ACall P f l' e σ K := by rw [hl]
theorem gA_id (v v' : AV) (want : Bool) (op : Op) (d : Option Tmp) (hv : v = v') : gA P ops v want op d rest Q e σ = gA P ops v' want op d rest Q e σ := by rw [hv]
attribute [congr] konA_id opsA_id Sat_id thenQ_id blockQ_id loopQ_id retQ_id upd_id ACall_id gA_id

@[go_sem ↓] theorem opF_move (x : Operand) : opF P (.move x) e σ K = K (evA e x) e σ := rfl
@[go_sem ↓] theorem opF_assign (x : Operand) : opF P (.assign x) e σ K = K (evA e x) e σ := rfl
@[go_sem ↓] theorem opF_pick (c a b : Operand) : opF P (.pick c a b) e σ K = pickA (evA e c) (evA e a) (evA e b) e σ K := rfl
@[go_sem ↓] theorem opF_alloc (t : TypeId) : opF P (.alloc t) e σ K = withTI P t fun i => K (.ptr σ.n 0 0) e (σ.new (.deep i.zero.length [i.zero.map .lit])) := rfl
@[go_sem ↓] theorem opF_box (t : TypeId) (x : Operand) : opF P (.box t x) e σ K = boxA (evA e x) e σ K := rfl
@[go_sem ↓] theorem opF_build (t : TypeId) (ps : Array (Nat × Operand)) : opF P (.build t ps) e σ K = buildA P t (partsE e ps.toList) e σ K := rfl
@[go_sem ↓] theorem opF_buildSlice (t : TypeId) (n : Nat) (ps : Array (Nat × Operand)) : opF P (.buildSlice t n ps) e σ K = buildSliceA P t n (partsE e ps.toList) e σ K := rfl
@[go_sem ↓] theorem opF_load (t : TypeId) (x : Operand) : opF P (.load t x) e σ K = loadA P t (evA e x) e σ K := rfl
@[go_sem ↓] theorem opF_store (t : TypeId) (x y : Operand) : opF P (.store t x y) e σ K = storeA P t (evA e x) (evA e y) e σ K := rfl
@[go_sem ↓] theorem opF_nilCheck (x : Operand) : opF P (.nilCheck x) e σ K = nilCheckA (evA e x) e σ K := rfl
@[go_sem ↓] theorem opF_binOp (op : BinOp) (t u : TypeId) (x y : Operand) : opF P (.binOp op t x y u) e σ K = binA P op t (evA e x) (evA e y) e σ K := rfl
@[go_sem ↓] theorem opF_unOp (op : UnOp) (t : TypeId) (x : Operand) : opF P (.unOp op t x) e σ K = unA op (evA e x) e σ K := rfl
@[go_sem ↓] theorem opF_conv (s d : TypeId) (x : Operand) : opF P (.convert s d x) e σ K = convF P s d (evA e x) e σ K := rfl
@[go_sem] theorem convF_lit (s d : TypeId) (v : Value) : convF P s d (.lit v) e σ K = ((P.underlying s).isSome = true ∧ convA P d (.lit v) e σ K) := rfl
@[go_sem] theorem convF_os (s d : TypeId) (id off len : Nat) : convF P s d (.os id off len) e σ K = bytesF P s d id off len e σ K := rfl
@[go_sem ↓] theorem opF_makeFunc (fn : Fn) (a b : Array Operand) : opF P (.makeFunc fn a b) e σ K = makeFuncA fn (a.toList.map (evA e)) (b.toList.map (evA e)) e σ K := rfl
@[go_sem ↓] theorem opF_makeSlice (t : TypeId) (l c : Operand) : opF P (.makeSlice t l c) e σ K = makeA P t (evA e l) (evA e c) e σ K := rfl
@[go_sem ↓] theorem opF_slice (t : TypeId) (x : Operand) (l h m : Option Operand) : opF P (.slice t x l h m) e σ K = sliceA P t (evA e x) (l.map (evA e)) (h.map (evA e)) (m.map (evA e)) e σ K := rfl
@[go_sem ↓] theorem opF_fieldAddr (t : TypeId) (x : Operand) (f : Nat) : opF P (.fieldAddr t x f) e σ K = fieldAddrA P t (evA e x) f e σ K := rfl
@[go_sem ↓] theorem opF_field (t : TypeId) (x : Operand) (f : Nat) : opF P (.field t x f) e σ K = fieldA P t (evA e x) f e σ K := rfl
@[go_sem ↓] theorem opF_indexAddr (t : TypeId) (x i : Operand) : opF P (.indexAddr t x i) e σ K = indexAddrA P t (evA e x) (evA e i) e σ K := rfl
@[go_sem ↓] theorem opF_index (t : TypeId) (x i : Operand) : opF P (.index t x i) e σ K = indexA P t (evA e x) (evA e i) e σ K := rfl
@[go_sem ↓] theorem opF_extract (x : Operand) (i : Nat) : opF P (.extract x i) e σ K = extractA (evA e x) i e σ K := rfl
@[go_sem ↓] theorem opF_builtin (b : Builtin) (a : Array Operand) (t : Array TypeId) : opF P (.call ⟨.builtin b, a, t⟩) e σ K = builtinA P b t.toList (a.toList.map (evA e)) e σ K := rfl
/-- Types: what is used of them, once it is known. -/
@[go_sem] theorem condA_t (N : Nat) (x y : Code) (Q : Exit → Env → St → Prop) : condA P N (.lit (.bool true)) x y Q e σ = Sat P N x Q e σ := by simp [condA]
@[go_sem] theorem condA_f (N : Nat) (x y : Code) (Q : Exit → Env → St → Prop) : condA P N (.lit (.bool false)) x y Q e σ = Sat P N y Q e σ := by simp [condA]
theorem condA_bool (N : Nat) (t : Bool) (x y : Code) (Q : Exit → Env → St → Prop) : condA P N (.lit (.bool t)) x y Q e σ = ((t = true → Sat P N x Q e σ) ∧ (t = false → Sat P N y Q e σ)) := rfl
@[go_sem] theorem thenQ_normal (K : Env → St → Prop) (Q : Exit → Env → St → Prop) : thenQ K Q .normal e σ = K e σ := rfl
@[go_sem] theorem thenQ_exit (K : Env → St → Prop) (Q : Exit → Env → St → Prop) (i : Nat) : thenQ K Q (.exit i) e σ = Q (.exit i) e σ := rfl
@[go_sem] theorem thenQ_ret (K : Env → St → Prop) (Q : Exit → Env → St → Prop) : thenQ K Q .ret e σ = Q .ret e σ := rfl
@[go_sem] theorem blockQ_normal (i : Nat) (Q : Exit → Env → St → Prop) : blockQ i Q .normal e σ = Q .normal e σ := rfl
@[go_sem] theorem blockQ_ret (i : Nat) (Q : Exit → Env → St → Prop) : blockQ i Q .ret e σ = Q .ret e σ := rfl
@[go_sem] theorem blockQ_exit (i j : Nat) (Q : Exit → Env → St → Prop) : blockQ i Q (.exit j) e σ = (if j = i then Q .normal e σ else Q (.exit j) e σ) := by simp only [blockQ]; split <;> rfl
@[go_sem] theorem loopQ_normal {T : Type} (I : T → Env → St → Prop) (μ : T → Nat) (t : T) (Q : Exit → Env → St → Prop) : loopQ I μ t Q .normal e σ = ∃ t', μ t' < μ t ∧ I t' e σ := rfl
@[go_sem] theorem loopQ_ret {T : Type} (I : T → Env → St → Prop) (μ : T → Nat) (t : T) (Q : Exit → Env → St → Prop) : loopQ I μ t Q .ret e σ = Q .ret e σ := rfl
@[go_sem] theorem loopQ_exit {T : Type} (I : T → Env → St → Prop) (μ : T → Nat) (t : T) (Q : Exit → Env → St → Prop) (i : Nat) : loopQ I μ t Q (.exit i) e σ = Q (.exit i) e σ := rfl
@[go_sem] theorem retQ_normal (rs : List ResultVar) (Kv : AV → St → Prop) : retQ P rs Kv .normal e σ = resA P rs e σ (oneA fun v => Kv v σ) := rfl
@[go_sem] theorem retQ_ret (rs : List ResultVar) (Kv : AV → St → Prop) : retQ P rs Kv .ret e σ = resA P rs e σ (oneA fun v => Kv v σ) := rfl
@[go_sem] theorem resA_nil (Kl : List AV → Prop) : resA P [] e σ Kl = Kl [] := rfl
@[go_sem] theorem resA_tmp (t : Nat) (rs : List ResultVar) (Kl : List AV → Prop) : resA P (.tmp t :: rs) e σ Kl = resA P rs e σ fun l => Kl (e t :: l) := rfl
@[go_sem] theorem resA_cell (p : Nat) (t : TypeId) (rs : List ResultVar) (Kl : List AV → Prop) : resA P (.cell p t :: rs) e σ Kl = loadA P t (e p) e σ fun av _ _ => resA P rs e σ fun l => Kl (av :: l) := rfl
@[go_sem] theorem oneA_one (Kv : AV → Prop) (x : AV) : oneA Kv [x] = Kv x := rfl
@[go_sem] theorem oneA_nil (Kv : AV → Prop) : oneA Kv [] = Kv (.tup []) := rfl
@[go_sem] theorem oneA_two (Kv : AV → Prop) (x y : AV) (l : List AV) : oneA Kv (x :: y :: l) = Kv (.tup (x :: y :: l)) := rfl

@[go_sem] theorem St_new_n (B : Blk) : (σ.new B).n = σ.n + 1 := rfl
@[go_sem] theorem St_put_n (i : Nat) (B : Blk) : (σ.put i B).n = σ.n := rfl
theorem St_new_h (B : Blk) (k : Nat) : (σ.new B).h k = if k = σ.n then B else σ.h k := rfl
theorem St_put_h (i : Nat) (B : Blk) (k : Nat) : (σ.put i B).h k = if k = i then B else σ.h k := rfl
@[go_sem] theorem St_new_same (B : Blk) (k : Nat) (h : k ≤ σ.n) (h' : σ.n ≤ k) : (σ.new B).h k = B := by simp [St_new_h]; omega
@[go_sem] theorem St_new_ne (B : Blk) (k : Nat) (h : ¬ k = σ.n) : (σ.new B).h k = σ.h k := by simp [St_new_h, h]
@[go_sem] theorem St_put_same (i : Nat) (B : Blk) (k : Nat) (h : k ≤ i) (h' : i ≤ k) : (σ.put i B).h k = B := by simp [St_put_h]; omega
@[go_sem] theorem St_put_ne (i : Nat) (B : Blk) (k : Nat) (h : ¬ k = i) : (σ.put i B).h k = σ.h k := by simp [St_put_h, h]

section
variable (k : Nat)
@[go_sem] theorem nlV_nil : nlV (k + 1) (.lit (.slice none 0 0)) = .ps [] := rfl
@[go_sem] theorem nlV_int (i : IntKind) (n : Int) : nlV k (.lit (.int i n)) = .lit (.int i n) := by cases k <;> rfl
@[go_sem] theorem nlV_bool (b : Bool) : nlV k (.lit (.bool b)) = .lit (.bool b) := by cases k <;> rfl
@[go_sem] theorem nlV_string (b : ByteArray) : nlV k (.lit (.string b)) = .lit (.string b) := by cases k <;> rfl
@[go_sem] theorem nlV_pointer (b : Option Addr) : nlV k (.lit (.pointer b)) = .lit (.pointer b) := by cases k <;> rfl
@[go_sem] theorem nlV_undef : nlV k (.lit undef) = .lit undef := by cases k <;> rfl
@[go_sem] theorem nlV_ps (l : List (List AV)) : nlV k (.ps l) = .ps l := by cases k <;> rfl
@[go_sem] theorem nlV_pa (l : List AV) (c : Nat) : nlV k (.pa l c) = .pa l c := by cases k <;> rfl
@[go_sem] theorem nlV_os (i o l : Nat) : nlV k (.os i o l) = .os i o l := by cases k <;> rfl
@[go_sem] theorem nlV_ptr (i o l : Nat) : nlV k (.ptr i o l) = .ptr i o l := by cases k <;> rfl
@[go_sem] theorem nlV_clo (f : Nat) (l : List AV) : nlV k (.clo f l) = .clo f l := by cases k <;> rfl
@[go_sem] theorem nlV_any : nlV k .any = .any := by cases k <;> rfl
@[go_sem] theorem nlV_agg (l : List AV) : nlV (k + 1) (.agg l) = .agg (l.map (nlV k)) := rfl
@[go_sem] theorem nlV_tup (l : List AV) : nlV (k + 1) (.tup l) = .tup (l.map (nlV k)) := rfl
end
def fzB (B : Blk) (off len : Nat) : AV := match B with
  | .flat _ rows => if off + len ≤ rows.length then .ps ((rows.drop off).take len) else .any
  | _ => .any
section
variable (x : Nat)
@[go_sem ↓] theorem fzE_get (F : List Nat) (j : Nat) : fzE F σ e j = fzV F σ 6 (e j) := rfl
@[go_sem] theorem fzV_lit (F : List Nat) (v : Value) : fzV F σ 6 (.lit v) = .lit v := rfl
@[go_sem] theorem fzV_ps (F : List Nat) (l : List (List AV)) : fzV F σ 6 (.ps l) = .ps l := rfl
@[go_sem] theorem fzV_pa (F : List Nat) (l : List AV) (c : Nat) : fzV F σ 6 (.pa l c) = .pa l c := rfl
@[go_sem] theorem fzV_clo (F : List Nat) (f : Nat) : fzV F σ 6 (.clo f []) = .clo f [] := rfl
@[go_sem] theorem fzV_agg (F : List Nat) (l : List AV) : fzV F σ 6 (.agg l) = .agg (l.map (fzV F σ 5)) := rfl
@[go_sem] theorem fzV_tup (F : List Nat) (l : List AV) : fzV F σ 6 (.tup l) = .tup (l.map (fzV F σ 5)) := rfl
@[go_sem] theorem fzV_lit5 (F : List Nat) (v : Value) : fzV F σ 5 (.lit v) = .lit v := rfl
@[go_sem] theorem fzV_ps5 (F : List Nat) (l : List (List AV)) : fzV F σ 5 (.ps l) = .ps l := rfl
@[go_sem] theorem fzV_pa5 (F : List Nat) (l : List AV) (c : Nat) : fzV F σ 5 (.pa l c) = .pa l c := rfl
@[go_sem] theorem fzV_os (id off len : Nat) (h : ¬ id = x) : fzV [x] σ 6 (.os id off len) = .os id off len := by simp [fzV, h]
@[go_sem] theorem fzV_os_same (id off len : Nat) (h : id ≤ x) (h' : x ≤ id) : fzV [x] σ 6 (.os id off len) = fzB (σ.h id) off len := by
  have : id = x := by omega
  subst this; simp only [fzV, fzB]; simp; rfl
@[go_sem] theorem fzV_ptr (id off len : Nat) (h : ¬ id = x) : fzV [x] σ 6 (.ptr id off len) = .ptr id off len := by simp [fzV, h]
@[go_sem] theorem fzV_os5 (id off len : Nat) (h : ¬ id = x) : fzV [x] σ 5 (.os id off len) = .os id off len := by simp [fzV, h]
@[go_sem] theorem fzV_os_same5 (id off len : Nat) (h : id ≤ x) (h' : x ≤ id) : fzV [x] σ 5 (.os id off len) = fzB (σ.h id) off len := by
  have : id = x := by omega
  subst this; simp only [fzV, fzB]; simp; rfl
@[go_sem] theorem fzB_flat (wd off len : Nat) (rows : List (List AV)) (h : off + len ≤ rows.length) : fzB (.flat wd rows) off len = .ps ((rows.drop off).take len) := by simp [fzB, h]
@[go_sem] theorem fzS_one : fzS [x] σ = σ.put x .dead := by
  simp only [fzS, St.put]
  congr 1
  funext k
  simp
end
end

/-- A list of whole numbers, as data. -/
def ints (l : List Int) : AV := .ps (l.map fun n => [.lit (.int .i64 n)])

end Go.Proofs.Qqz
namespace Go.Proofs.Qqz
open Go

def loadB (i : TI) (B : Blk) (r c : Nat) (e : Env) (σ : St) (K : KT) : Prop :=
  match B with
  | .flat _ rows => r < rows.length ∧ loadRow i (rows.getD r []) c e σ K
  | .deep _ rows => r < rows.length ∧ loadRow i (rows.getD r []) c e σ K
  | .dead => False

def storeB (i : TI) (cs : Option (List AV)) (B : Blk) (id r c : Nat) (e : Env) (σ : St) (K : KT) : Prop :=
  match cs with
  | some cs => cs.length = i.cells ∧ (∀ a ∈ cs, a.isCell = true) ∧
    match B with
    | .flat wd rows => (∀ a ∈ cs, Flat a) ∧ r < rows.length ∧ c + cs.length ≤ wd ∧ K .any e (σ.put id (.flat wd (rows.set r (splice (rows.getD r []) c cs))))
    | .deep wd rows => r < rows.length ∧ c + cs.length ≤ wd ∧ K .any e (σ.put id (.deep wd (rows.set r (splice (rows.getD r []) c cs))))
    | .dead => False
  | none => False

def wdB (B : Blk) (n : Nat) : Prop :=
  match B with
  | .flat wd _ => wd = n
  | .deep wd _ => wd = n
  | .dead => False

section
variable (P : Program) (e : Env) (σ : St) (K : KT)

@[go_sem] theorem loadA_pa (t : TypeId) (row : List AV) (c : Nat) : loadA P t (.pa row c) e σ K = withTI P t fun i => loadRow i row c e σ K := rfl
@[go_sem] theorem loadA_ptr (t : TypeId) (id r c : Nat) : loadA P t (.ptr id r c) e σ K = withTI P t fun i => loadB i (σ.h id) r c e σ K := rfl
@[go_sem] theorem loadB_flat (i : TI) (wd : Nat) (rows : List (List AV)) (r c : Nat) (h : r < rows.length) : loadB i (.flat wd rows) r c e σ K = loadRow i (rows.getD r []) c e σ K := by simp [loadB, h]
@[go_sem] theorem loadB_deep (i : TI) (wd : Nat) (rows : List (List AV)) (r c : Nat) (h : r < rows.length) : loadB i (.deep wd rows) r c e σ K = loadRow i (rows.getD r []) c e σ K := by simp [loadB, h]
@[go_sem] theorem loadRow_one (n b : Nat) (z : List Value) (s : Option Nat) (f : List (Nat × Nat)) (k : Option IntKind) (st : Bool) (row : List AV) (c : Nat) (h : c < row.length) :
    loadRow ⟨false, n, b, z, s, f, k, st⟩ row c e σ K = K (row.getD c .any) e σ := by simp [loadRow, h]
@[go_sem] theorem loadRow_agg (n b : Nat) (z : List Value) (s : Option Nat) (f : List (Nat × Nat)) (k : Option IntKind) (st : Bool) (row : List AV) (c : Nat) (h : c + n ≤ row.length) :
    loadRow ⟨true, n, b, z, s, f, k, st⟩ row c e σ K = K (.agg ((row.drop c).take n)) e σ := by simp [loadRow, h]
@[go_sem] theorem storeA_ptr (t : TypeId) (id r c : Nat) (v : AV) : storeA P t (.ptr id r c) v e σ K = withTI P t fun i => storeB i (avCells v) (σ.h id) id r c e σ K := by
  unfold storeA storeB
  congr 1
  funext i
  cases avCells v with
  | none => rfl
  | some cs => rfl
@[go_sem] theorem storeB_flat (i : TI) (cs : List AV) (wd : Nat) (rows : List (List AV)) (id r c : Nat) (h : r < rows.length) (h' : c + cs.length ≤ wd) : storeB i (some cs) (.flat wd rows) id r c e σ K =
    (cs.length = i.cells ∧ (∀ a ∈ cs, a.isCell = true) ∧ (∀ a ∈ cs, Flat a) ∧ K .any e (σ.put id (.flat wd (rows.set r (splice (rows.getD r []) c cs))))) := by simp [storeB, h, h']
@[go_sem] theorem storeB_deep (i : TI) (cs : List AV) (wd : Nat) (rows : List (List AV)) (id r c : Nat) (h : r < rows.length) (h' : c + cs.length ≤ wd) : storeB i (some cs) (.deep wd rows) id r c e σ K =
    (cs.length = i.cells ∧ (∀ a ∈ cs, a.isCell = true) ∧ K .any e (σ.put id (.deep wd (rows.set r (splice (rows.getD r []) c cs))))) := by simp [storeB, h, h']

@[go_sem] theorem avCells_agg (l : List AV) : avCells (.agg l) = some l := rfl
@[go_sem] theorem avCells_ps (l : List (List AV)) : avCells (.ps l) = some [.ps l] := rfl
@[go_sem] theorem avCells_pa (l : List AV) (c : Nat) : avCells (.pa l c) = some [.pa l c] := rfl
@[go_sem] theorem avCells_os (i o l : Nat) : avCells (.os i o l) = some [.os i o l] := rfl
@[go_sem] theorem avCells_ptr (i o l : Nat) : avCells (.ptr i o l) = some [.ptr i o l] := rfl
@[go_sem] theorem avCells_clo (f : Nat) (l : List AV) : avCells (.clo f l) = some [.clo f l] := rfl
@[go_sem] theorem avCells_int (k : IntKind) (n : Int) : avCells (.lit (.int k n)) = some [.lit (.int k n)] := rfl
@[go_sem] theorem avCells_bool (b : Bool) : avCells (.lit (.bool b)) = some [.lit (.bool b)] := rfl
@[go_sem] theorem avCells_str (b : ByteArray) : avCells (.lit (.string b)) = some [.lit (.string b)] := rfl
@[go_sem] theorem avCells_slice (a : Option Addr) (n m : Nat) : avCells (.lit (.slice a n m)) = some [.lit (.slice a n m)] := rfl
@[go_sem] theorem avCells_pointer (a : Option Addr) : avCells (.lit (.pointer a)) = some [.lit (.pointer a)] := rfl

@[go_sem] theorem isCell_ps (l : List (List AV)) : (AV.ps l).isCell = true := rfl
@[go_sem] theorem isCell_pa (l : List AV) (c : Nat) : (AV.pa l c).isCell = true := rfl
@[go_sem] theorem isCell_os (i o l : Nat) : (AV.os i o l).isCell = true := rfl
@[go_sem] theorem isCell_ptr (i o l : Nat) : (AV.ptr i o l).isCell = true := rfl
@[go_sem] theorem isCell_clo (f : Nat) (l : List AV) : (AV.clo f l).isCell = true := rfl
@[go_sem] theorem isCell_int (k : IntKind) (n : Int) : (AV.lit (.int k n)).isCell = true := rfl
@[go_sem] theorem isCell_bool (b : Bool) : (AV.lit (.bool b)).isCell = true := rfl
@[go_sem] theorem isCell_str (b : ByteArray) : (AV.lit (.string b)).isCell = true := rfl
@[go_sem] theorem isCell_slice (a : Option Addr) (n m : Nat) : (AV.lit (.slice a n m)).isCell = true := rfl
@[go_sem] theorem isCell_pointer (a : Option Addr) : (AV.lit (.pointer a)).isCell = true := rfl
@[go_sem] theorem Flat_lit (v : Value) : Flat (.lit v) = True := eq_true .lit
@[go_sem] theorem Flat_ps (l : List (List AV)) : Flat (.ps l) = True := eq_true .ps
@[go_sem] theorem Flat_pa (l : List AV) (c : Nat) : Flat (.pa l c) = True := eq_true .pa
@[go_sem] theorem Flat_any : Flat .any = True := eq_true .any

@[go_sem] theorem makeA_int (t : TypeId) (k k' : IntKind) (n m : Int) : makeA P t (.lit (.int k n)) (.lit (.int k' m)) e σ K = withTI P t fun i => makeI P i.slice n m e σ K := rfl
@[go_sem] theorem makeI_some (el : Nat) (n m : Int) (h0 : 0 ≤ n) (h1 : n ≤ m) (h2 : m ≤ 4294967296) : makeI P (some el) n m e σ K = withTI P el fun j => j.bytes ≤ 4096 ∧ 0 < j.cells ∧ j.zero.length = j.cells ∧
          K (.os σ.n 0 n.toNat) e (σ.new (.flat j.cells (List.replicate n.toNat (j.zero.map .lit)))) := by simp [makeI, h0, h1, h2]

@[go_sem] theorem lenA_os (t : TypeId) (id off len : Nat) : lenA P t (.os id off len) e σ K = withTI P t fun i => i.slice.isSome = true ∧ K (.lit (.int .i64 len)) e σ := rfl
@[go_sem] theorem lenA_ps (t : TypeId) (l : List (List AV)) : lenA P t (.ps l) e σ K = withTI P t fun i => i.slice.isSome = true ∧ K (.lit (.int .i64 l.length)) e σ := rfl
@[go_sem] theorem lenA_nil (t : TypeId) : lenA P t (.lit (.slice none 0 0)) e σ K = withTI P t fun i => i.slice.isSome = true ∧ K (.lit (.int .i64 0)) e σ := rfl
@[go_sem] theorem lenA_str (t : TypeId) (s : ByteArray) : lenA P t (.lit (.string s)) e σ K = withTI P t fun i => i.str = true ∧ K (.lit (.int .i64 s.size)) e σ := rfl

def fieldAddrP (P : Program) (f : Option (Nat × Nat)) (x : AV) (e : Env) (σ : St) (K : KT) : Prop :=
  match f with
  | some (off, ty) => (withTI P ty fun j => 0 < j.cells) ∧
    match x with
    | .pa row c => K (.pa row (c + off)) e σ
    | .ptr id r c => K (.ptr id r (c + off)) e σ
    | _ => False
  | none => False
@[go_sem] theorem fieldAddrA_eq (t : TypeId) (x : AV) (f : Nat) : fieldAddrA P t x f e σ K = withTI P t fun i => fieldAddrP P i.fields[f]? x e σ K := rfl
@[go_sem] theorem fieldAddrP_pa (off ty : Nat) (row : List AV) (c : Nat) : fieldAddrP P (some (off, ty)) (.pa row c) e σ K = ((withTI P ty fun j => 0 < j.cells) ∧ K (.pa row (c + off)) e σ) := rfl
@[go_sem] theorem fieldAddrP_ptr (off ty : Nat) (id r c : Nat) : fieldAddrP P (some (off, ty)) (.ptr id r c) e σ K = ((withTI P ty fun j => 0 < j.cells) ∧ K (.ptr id r (c + off)) e σ) := rfl

def fieldP (P : Program) (f : Option (Nat × Nat)) (l : List AV) (e : Env) (σ : St) (K : KT) : Prop :=
  match f with
  | some (off, ty) => withTI P ty fun j => loadRow j l off e σ K
  | none => False
@[go_sem] theorem fieldA_agg (t : TypeId) (l : List AV) (f : Nat) : fieldA P t (.agg l) f e σ K = withTI P t fun i => fieldP P i.fields[f]? l e σ K := rfl
@[go_sem] theorem fieldP_some (off ty : Nat) (l : List AV) : fieldP P (some (off, ty)) l e σ K = withTI P ty fun j => loadRow j l off e σ K := rfl

def indexP (P : Program) (sl : Option Nat) (x : AV) (n : Int) (e : Env) (σ : St) (K : KT) : Prop :=
  match sl with
  | some el => withTI P el fun j => 0 ≤ n ∧
    match x with
    | .os id off len => n < len ∧ wdB (σ.h id) j.cells ∧ K (.ptr id (off + n.toNat) 0) e σ
    | .ps rows => n < rows.length ∧ (rows.getD n.toNat []).length = j.cells ∧ K (.pa (rows.getD n.toNat []) 0) e σ
    | _ => False
  | none => False
@[go_sem] theorem indexAddrA_int (t : TypeId) (x : AV) (k : IntKind) (n : Int) : indexAddrA P t x (.lit (.int k n)) e σ K = withTI P t fun i => indexP P i.slice x n e σ K := by
  unfold indexAddrA indexP
  congr 1
  funext i
  cases i.slice with
  | none => rfl
  | some el =>
    cases x with
    | os id off len =>
      simp only [wdB]
      cases σ.h id <;> rfl
    | _ => rfl
@[go_sem] theorem indexP_os (el id off len : Nat) (n : Int) (h0 : 0 ≤ n) (h1 : n < len) : indexP P (some el) (.os id off len) n e σ K = withTI P el fun j => wdB (σ.h id) j.cells ∧ K (.ptr id (off + n.toNat) 0) e σ := by simp [indexP, h0, h1]
@[go_sem] theorem indexP_ps (el : Nat) (rows : List (List AV)) (n : Int) (h0 : 0 ≤ n) (h1 : n < rows.length) : indexP P (some el) (.ps rows) n e σ K = withTI P el fun j => (rows.getD n.toNat []).length = j.cells ∧ K (.pa (rows.getD n.toNat []) 0) e σ := by simp [indexP, h0, h1]
@[go_sem] theorem wdB_flat (wd : Nat) (rows : List (List AV)) (n : Nat) : wdB (.flat wd rows) n = (wd = n) := rfl
@[go_sem] theorem wdB_deep (wd : Nat) (rows : List (List AV)) (n : Nat) : wdB (.deep wd rows) n = (wd = n) := rfl
@[go_sem] theorem indexA_str (t : TypeId) (s : ByteArray) (k : IntKind) (n : Int) (h0 : 0 ≤ n) (h1 : n < s.size) : indexA P t (.lit (.string s)) (.lit (.int k n)) e σ K =
  withTI P t fun i => i.str = true ∧ K (.lit (.int .u8 ((s.data.toList.getD n.toNat 0).toNat : Int))) e σ := by simp [indexA, h0, h1]

def sliceOsP (P : Program) (sl : Option Nat) (id off len : Nat) (lo hi mx : Option AV) (e : Env) (σ : St) (K : KT) : Prop :=
  match sl with
  | some el => mx = none ∧ bndA 0 lo fun l => bndA len hi fun h => 0 ≤ l ∧ l ≤ h ∧ h ≤ len ∧ (withTI P el fun j => wdB (σ.h id) j.cells) ∧ K (.os id (off + l.toNat) (h - l).toNat) e σ
  | none => False
@[go_sem] theorem sliceA_os (t : TypeId) (id off len : Nat) (lo hi mx : Option AV) : sliceA P t (.os id off len) lo hi mx e σ K = withTI P t fun i => sliceOsP P i.slice id off len lo hi mx e σ K := by
  unfold sliceA sliceOsP sliceOsA
  congr 1
  funext i
  cases i.slice with
  | none => rfl
  | some el =>
    simp only [wdB]
    congr 2
    funext l
    congr 1
    funext h
    congr 3
    congr 1
    unfold withTI
    cases σ.h id <;> cases tiOf P el <;> simp [eq_comm]
def sliceB (P : Program) (el id off len : Nat) (l h : Int) (e : Env) (σ : St) (K : KT) : Prop := 0 ≤ l ∧ l ≤ h ∧ h ≤ len ∧ (withTI P el fun j => wdB (σ.h id) j.cells) ∧ K (.os id (off + l.toNat) (h - l).toNat) e σ
@[go_sem] theorem sliceB_eq (el id off len : Nat) (l h : Int) (h0 : 0 ≤ l) (h1 : l ≤ h) (h2 : h ≤ len) : sliceB P el id off len l h e σ K = ((withTI P el fun j => wdB (σ.h id) j.cells) ∧ K (.os id (off + l.toNat) (h - l).toNat) e σ) := by simp [sliceB, h0, h1, h2]
@[go_sem] theorem sliceOsP_some (el id off len : Nat) (lo hi : Option AV) : sliceOsP P (some el) id off len lo hi none e σ K =
    bndA 0 lo fun l => bndA len hi fun h => sliceB P el id off len l h e σ K := by simp [sliceOsP, sliceB]
def slicePsP (P : Program) (sl : Option Nat) (rows : List (List AV)) (lo hi mx : Option AV) (e : Env) (σ : St) (K : KT) : Prop :=
  match sl with
  | some el => (withTI P el fun j => ∀ row ∈ rows, j.cells = row.length) ∧ bndA 0 lo fun l => bndA rows.length hi fun h => slicePsA P el rows l h hi mx e σ K
  | none => False
@[go_sem] theorem sliceA_ps (t : TypeId) (rows : List (List AV)) (lo hi mx : Option AV) : sliceA P t (.ps rows) lo hi mx e σ K = withTI P t fun i => slicePsP P i.slice rows lo hi mx e σ K := rfl
@[go_sem] theorem slicePsP_some (el : Nat) (rows : List (List AV)) (lo hi mx : Option AV) : slicePsP P (some el) rows lo hi mx e σ K =
    ((withTI P el fun j => ∀ row ∈ rows, j.cells = row.length) ∧ bndA 0 lo fun l => bndA rows.length hi fun h => slicePsA P el rows l h hi mx e σ K) := rfl
@[go_sem] theorem slicePsA_none (el : Nat) (rows : List (List AV)) (l h : Int) (hi : Option AV) (h0 : 0 ≤ l) (h1 : l ≤ h) (h2 : h ≤ rows.length) : slicePsA P el rows l h hi none e σ K = K (.ps ((rows.drop l.toNat).take (h - l).toNat)) e σ := by simp [slicePsA, h0, h1, h2]
@[go_sem] theorem slicePsA_some (el : Nat) (rows : List (List AV)) (l h : Int) (hi : AV) (k : IntKind) (m : Int) : slicePsA P el rows l h (some hi) (some (.lit (.int k m))) e σ K =
    (0 ≤ l ∧ l ≤ h ∧ h ≤ rows.length ∧ m = l ∧ h = l ∧ withTI P el fun j => K (.os σ.n 0 0) e (σ.new (.flat j.cells []))) := by simp [slicePsA, bndA]
@[go_sem] theorem sliceA_str (t : TypeId) (s : ByteArray) (lo hi : Option AV) : sliceA P t (.lit (.string s)) lo hi none e σ K =
    withTI P t fun i => i.str = true ∧ bndA 0 lo fun l => bndA s.size hi fun h => 0 ≤ l ∧ l ≤ h ∧ h ≤ s.size ∧ K (.lit (.string (s.extract l.toNat h.toNat))) e σ := by simp [sliceA]
@[go_sem] theorem bndA_none (d : Int) (Kb : Int → Prop) : bndA d none Kb = Kb d := rfl
@[go_sem] theorem bndA_some (d : Int) (k : IntKind) (n : Int) (Kb : Int → Prop) : bndA d (some (.lit (.int k n))) Kb = Kb n := rfl

def convP (d : Option TypeDesc) (n : Int) (e : Env) (σ : St) (K : KT) : Prop :=
  match d with
  | some (.int k) => K (.lit (.int k (k.wrap n))) e σ
  | _ => False
@[go_sem] theorem convA_int (d : TypeId) (k : IntKind) (n : Int) : convA P d (.lit (.int k n)) e σ K = convP (P.underlying d) n e σ K := by
  unfold convA convP
  split <;> simp_all
@[go_sem] theorem convP_int (k : IntKind) (n : Int) : convP (some (.int k)) n e σ K = K (.lit (.int k (k.wrap n))) e σ := rfl


/-! Structs and slices, built -/

def fillK (place : Nat → Option (Nat × Nat)) (cells : List AV) (parts : List (Nat × AV)) (Kc : List AV → Prop) : Prop :=
  match fillA place cells parts with
  | some cs => Kc cs
  | none => False
def fillQ (place : Nat → Option (Nat × Nat)) (at_ : Option (Nat × Nat)) (cs : Option (List AV)) (cells : List AV) (rest : List (Nat × AV)) (Kc : List AV → Prop) : Prop :=
  match at_, cs with
  | some (off, size), some cs => if cs.length = size ∧ off + cs.length ≤ cells.length then fillK place (splice cells off cs) rest Kc else False
  | _, _ => False
@[go_sem] theorem fillK_nil (place : Nat → Option (Nat × Nat)) (cells : List AV) (Kc : List AV → Prop) : fillK place cells [] Kc = Kc cells := rfl
@[go_sem] theorem fillK_cons (place : Nat → Option (Nat × Nat)) (cells : List AV) (i : Nat) (v : AV) (rest : List (Nat × AV)) (Kc : List AV → Prop) :
    fillK place cells ((i, v) :: rest) Kc = fillQ place (place i) (avCells v) cells rest Kc := by
  unfold fillK fillQ
  simp only [fillA]
  cases place i with
  | none => rfl
  | some p =>
    cases avCells v with
    | none => rfl
    | some cs =>
      by_cases hc : cs.length = p.2 ∧ p.1 + cs.length ≤ cells.length
      · simp only [if_pos hc]; rfl
      · simp only [if_neg hc]
@[go_sem] theorem fillQ_some (place : Nat → Option (Nat × Nat)) (off size : Nat) (cs cells : List AV) (rest : List (Nat × AV)) (Kc : List AV → Prop) (h : cs.length = size) (h' : off + cs.length ≤ cells.length) :
    fillQ place (some (off, size)) (some cs) cells rest Kc = fillK place (splice cells off cs) rest Kc := by simp [fillQ, h, h'] ; intro h2; omega
@[go_sem] theorem splice_eq (l : List AV) (c : Nat) (xs : List AV) : splice l c xs = l.take c ++ xs ++ l.drop (c + xs.length) := rfl
theorem fillK_id (place : Nat → Option (Nat × Nat)) (cells cells' : List AV) (parts parts' : List (Nat × AV)) (Kc : List AV → Prop) (h : cells = cells') (h' : parts = parts') : fillK place cells parts Kc = fillK place cells' parts' Kc := by rw [h, h']
attribute [congr] fillK_id

@[go_sem] theorem partsE_nil : partsE e [] = [] := rfl
@[go_sem] theorem partsE_cons (i : Nat) (x : Operand) (rest : List (Nat × Operand)) : partsE e ((i, x) :: rest) = (i, evA e x) :: partsE e rest := rfl

def fieldsOk (P : Program) : List (Nat × Nat) → Prop
  | [] => True
  | f :: fs => (tiOf P f.2).isSome = true ∧ fieldsOk P fs
@[go_sem] theorem fieldsOk_nil : fieldsOk P [] = True := rfl
@[go_sem] theorem fieldsOk_cons (f : Nat × Nat) (fs : List (Nat × Nat)) : fieldsOk P (f :: fs) = ((tiOf P f.2).isSome = true ∧ fieldsOk P fs) := rfl
theorem fieldsOk_iff : ∀ l : List (Nat × Nat), fieldsOk P l = ∀ f ∈ l, (tiOf P f.2).isSome
  | [] => by simp [fieldsOk]
  | f :: fs => by simp only [fieldsOk, fieldsOk_iff fs]; simp
def placeF (P : Program) (fs : List (Nat × Nat)) (k : Nat) : Option (Nat × Nat) := (fs[k]?).bind fun f => (tiOf P f.2).map fun j => (f.1, j.cells)
@[go_sem] theorem placeF_eq (fs : List (Nat × Nat)) (k : Nat) : placeF P fs k = (fs[k]?).bind fun f => (tiOf P f.2).map fun j => (f.1, j.cells) := rfl
@[go_sem] theorem buildA_eq (t : TypeId) (parts : List (Nat × AV)) : buildA P t parts e σ K = withTI P t fun i => i.fields ≠ [] ∧ fieldsOk P i.fields ∧ fillK (placeF P i.fields) (i.zero.map .lit) parts (fun cs => K (.agg cs) e σ) := by
  unfold buildA fillK
  congr 1
  funext i
  rw [fieldsOk_iff]
  rfl
def placeS (n c : Nat) (i : Nat) : Option (Nat × Nat) := if i < n then some (i * c, c) else none
@[go_sem] theorem placeS_eq (n c i : Nat) (h : i < n) : placeS n c i = some (i * c, c) := by simp [placeS, h]
def rowsN : Nat → Nat → List AV → List (List AV)
  | 0, _, _ => []
  | n + 1, c, l => l.take c :: rowsN n c (l.drop c)
@[go_sem] theorem rowsN_zero (c : Nat) (l : List AV) : rowsN 0 c l = [] := rfl
@[go_sem] theorem rowsN_succ (n c : Nat) (l : List AV) : rowsN (n + 1) c l = l.take c :: rowsN n c (l.drop c) := rfl
theorem rowsN_eq : ∀ (n c : Nat) (l : List AV), rowsN n c l = (List.range n).map fun i => (l.drop (i * c)).take c
  | 0, _, _ => rfl
  | n + 1, c, l => by
    rw [rowsN_succ, rowsN_eq n c (l.drop c), List.range_succ_eq_map]
    simp only [List.map_cons, List.map_map, Nat.zero_mul, List.drop_zero]
    congr 1
    apply List.map_congr_left
    intro i _
    simp only [Function.comp, List.drop_drop]
    congr 2
    rw [Nat.succ_mul]; omega
def anyN : Nat → List AV
  | 0 => []
  | n + 1 => .any :: anyN n
@[go_sem] theorem anyN_zero : anyN 0 = [] := rfl
@[go_sem] theorem anyN_succ (n : Nat) : anyN (n + 1) = .any :: anyN n := rfl
theorem anyN_eq : ∀ n, anyN n = List.replicate n .any
  | 0 => rfl
  | n + 1 => by rw [anyN_succ, anyN_eq n]; rfl
def bslP (P : Program) (sl : Option Nat) (n : Nat) (parts : List (Nat × AV)) (e : Env) (σ : St) (K : KT) : Prop :=
  match sl with
  | some el => withTI P el fun j => 0 < j.cells ∧ j.zero.length = j.cells ∧ n * j.cells ≤ 1000000 ∧
      fillK (placeS n j.cells) (anyN (n * j.cells)) parts (fun l => (∀ a ∈ l, Flat a) ∧ K (.os σ.n 0 n) e (σ.new (.flat j.cells (rowsN n j.cells l))))
  | none => False
@[go_sem] theorem buildSliceA_eq (t : TypeId) (n : Nat) (parts : List (Nat × AV)) : buildSliceA P t n parts e σ K = withTI P t fun i => bslP P i.slice n parts e σ K := by
  unfold buildSliceA bslP
  congr 1
  funext i
  cases i.slice with
  | none => rfl
  | some el =>
    simp only
    congr 1
    funext j
    rw [anyN_eq]
    simp only [rowsN_eq]
    rfl
@[go_sem] theorem bslP_some (el n : Nat) (parts : List (Nat × AV)) : bslP P (some el) n parts e σ K = withTI P el fun j => 0 < j.cells ∧ j.zero.length = j.cells ∧ n * j.cells ≤ 1000000 ∧
      fillK (placeS n j.cells) (anyN (n * j.cells)) parts (fun l => (∀ a ∈ l, Flat a) ∧ K (.os σ.n 0 n) e (σ.new (.flat j.cells (rowsN n j.cells l)))) := rfl
end
end Go.Proofs.Qqz
namespace Go.Proofs.Qqz
open Go

attribute [go_sem] true_or or_true List.take_nil Int.cast_ofNat_Int Option.some.injEq TypeDesc.slice.injEq TypeDesc.pointer.injEq exists_eq List.take_length List.map_cons List.map_nil List.length_cons List.length_nil List.getD_cons_zero List.getD_cons_succ List.getD_nil List.getElem?_cons_zero List.getElem?_cons_succ List.getElem?_nil Option.bind_some Option.bind_none Option.map_some Option.map_none
  Option.isSome_some Option.getD_some List.length_map true_and and_true and_self decide_eq_true_eq decide_eq_false_iff_not Bool.not_eq_true' Bool.not_eq_false' Bool.not_true Bool.not_false List.drop_zero List.drop_succ_cons List.take_zero List.take_succ_cons List.nil_append List.cons_append List.append_nil
  decide_true decide_false Bool.false_eq_true forall_const implies_true List.mem_cons List.not_mem_nil forall_eq_or_imp false_imp_iff forall_eq Int.toNat_natCast Int.toNat_zero Nat.zero_add Nat.add_zero List.set_cons_zero List.set_cons_succ List.length_append List.length_set List.length_replicate
  Nat.not_lt_zero ne_eq not_false_eq_true not_true_eq_false List.append_toArray Nat.zero_lt_succ if_true if_false exists_eq' List.filterMap_cons List.filterMap_nil List.getElem?_toArray List.drop_nil List.take_nil

def intRow (n : Int) : List AV := [.lit (.int .i64 n)]
theorem ints_def (l : List Int) : ints l = AV.ps (l.map intRow) := rfl
@[go_sem] theorem intRow_eq (n : Int) : intRow n = [.lit (.int .i64 n)] := rfl
/-- A slice of things, as data. -/
def sl {α : Type} (f : α → List AV) (l : List α) : AV := .ps (l.map f)
@[go_sem] theorem ints_eq (l : List Int) : ints l = sl intRow l := rfl
theorem sl_eq {α : Type} (f : α → List AV) (l : List α) : sl f l = .ps (l.map f) := rfl
/-- A block of things. -/
def bl {α : Type} (f : α → List AV) (wd : Nat) (l : List α) : Blk := .flat wd (l.map f)

@[go_sem] theorem ps_take_map {α : Type} (f : α → List AV) (l : List α) (n : Nat) : AV.ps (List.take n (List.map f l)) = sl f (l.take n) := by simp [sl, List.map_take]
@[go_sem] theorem ps_drop_map {α : Type} (f : α → List AV) (l : List α) (n : Nat) : AV.ps (List.drop n (List.map f l)) = sl f (l.drop n) := by simp [sl, List.map_drop]
@[go_sem] theorem ps_take_drop_map {α : Type} (f : α → List AV) (l : List α) (n k : Nat) : AV.ps (List.take n (List.drop k (List.map f l))) = sl f ((l.drop k).take n) := by simp [sl, List.map_take, List.map_drop]
@[go_sem] theorem rows_wd {α : Type} (f : α → List AV) (l : List α) (n : Nat) (h : ∀ x, n = (f x).length) : (∀ row ∈ l.map f, n = row.length) = True := by
  apply eq_true
  intro row hr
  obtain ⟨x, _, rfl⟩ := List.mem_map.1 hr
  exact h x
theorem getD_row {α : Type} [Inhabited α] (f : α → List AV) (l : List α) (i : Nat) (h : i < l.length) : (l.map f).getD i [] = f (l.getD i default) := by
  simp [List.getD, h]

@[go_sem] theorem flat_map_bl {α : Type} (f : α → List AV) (wd : Nat) (l : List α) : Blk.flat wd (List.map f l) = bl f wd l := rfl
theorem getD_int (l : List Int) (i : Nat) : l.getD i default = l.getD i 0 := rfl

theorem wrap_i64 {n : Int} (h0 : -9223372036854775808 ≤ n) (h1 : n ≤ 9223372036854775807) : IntKind.i64.wrap n = n := by
  unfold IntKind.wrap
  have hb : IntKind.i64.bits = 64 := rfl
  have hs : IntKind.i64.signed = true := rfl
  simp only [hb, hs, Bool.true_and]
  by_cases h : 0 ≤ n
  · have : n % 2 ^ 64 = n := Int.emod_eq_of_lt h (by omega)
    rw [this, if_neg]
    simp
    omega
  · have : n % 2 ^ 64 = n + 2 ^ 64 := by
      rw [← Int.add_emod_right, Int.emod_eq_of_lt (by omega) (by omega)]
    rw [this, if_pos]
    · omega
    · simp
      omega

theorem wrap_u64 {n : Int} (h0 : 0 ≤ n) (h1 : n ≤ 18446744073709551615) : IntKind.u64.wrap n = n := by
  unfold IntKind.wrap
  have hb : IntKind.u64.bits = 64 := rfl
  have hs : IntKind.u64.signed = false := rfl
  simp only [hb, hs, Bool.false_and]
  have : n % 2 ^ 64 = n := Int.emod_eq_of_lt h0 (by omega)
  rw [this]; simp

section
variable (P : Program) (e : Env) (σ : St) (K : KT) {α : Type} (f : α → List AV)

@[go_sem] theorem lenA_sl (t : TypeId) (l : List α) : lenA P t (sl f l) e σ K = withTI P t fun i => i.slice.isSome = true ∧ K (.lit (.int .i64 l.length)) e σ := by
  simp [sl, lenA_ps]
@[go_sem] theorem indexP_sl [Inhabited α] (el : Nat) (l : List α) (n : Int) (h0 : 0 ≤ n) (h1 : n < l.length) : indexP P (some el) (sl f l) n e σ K = withTI P el fun j => (f (l.getD n.toNat default)).length = j.cells ∧ K (.pa (f (l.getD n.toNat default)) 0) e σ := by
  rw [sl_eq, indexP_ps _ _ _ _ _ _ _ h0 (by simpa using h1), getD_row f l n.toNat (by omega)]
@[go_sem] theorem slicePsA_sl (el : Nat) (l : List α) (a b : Int) (hi : Option AV) (h0 : 0 ≤ a) (h1 : a ≤ b) (h2 : b ≤ l.length) : slicePsA P el (l.map f) a b hi none e σ K = K (sl f ((l.drop a.toNat).take (b - a).toNat)) e σ := by
  rw [slicePsA_none _ _ _ _ _ _ _ _ _ h0 h1 (by simpa using h2)]
  simp [sl, List.map_take, List.map_drop]
@[go_sem] theorem sliceA_sl (t : TypeId) (l : List α) (lo hi mx : Option AV) : sliceA P t (sl f l) lo hi mx e σ K = withTI P t fun i => slicePsP P i.slice (l.map f) lo hi mx e σ K := rfl
@[go_sem] theorem binA_eq_sl (t : TypeId) (l : List α) : binA P .eql t (sl f l) (.lit (.slice none 0 0)) e σ K = ((∃ el, P.underlying t = some (.slice el)) ∧ ∀ b : Bool, (b = true → l = []) → K (.lit (.bool b)) e σ) := by
  simp [sl, binA_eq_ps]
@[go_sem] theorem boxA_sl (l : List α) : boxA (sl f l) e σ K = K (.ptr σ.n 0 0) e (σ.new (.deep 1 [[sl f l]])) := rfl
@[go_sem] theorem avCells_sl (l : List α) : avCells (sl f l) = some [sl f l] := rfl
@[go_sem] theorem isCell_sl (l : List α) : (sl f l).isCell = true := rfl
@[go_sem] theorem Flat_sl (l : List α) : Flat (sl f l) = True := eq_true .ps

@[go_sem] theorem wdB_bl (wd : Nat) (l : List α) (n : Nat) : wdB (bl f wd l) n = (wd = n) := rfl
@[go_sem] theorem loadB_bl [Inhabited α] (i : TI) (wd : Nat) (l : List α) (r c : Nat) (h : r < l.length) : loadB i (bl f wd l) r c e σ K = loadRow i (f (l.getD r default)) c e σ K := by
  rw [bl, loadB_flat _ _ _ _ _ _ _ _ (by simpa using h), getD_row f l r h]
/-- A whole number is stored. -/
@[go_sem] theorem storeB_ints (i : TI) (n : Int) (l : List Int) (id r : Nat) (h : r < l.length) : storeB i (some [.lit (.int .i64 n)]) (bl intRow 1 l) id r 0 e σ K = (1 = i.cells ∧ K .any e (σ.put id (bl intRow 1 (l.set r n)))) := by
  rw [bl, storeB_flat _ _ _ _ _ _ _ _ _ _ (by simpa using h) (by simp)]
  have e1 : splice ((l.map intRow).getD r []) 0 [.lit (.int .i64 n)] = intRow n := by
    rw [getD_row intRow l r h]
    simp [splice, intRow]
  rw [e1, ← List.map_set]
  simp [bl, go_sem, AV.isCell]
theorem makeI_ints (n : Nat) : Blk.flat 1 (List.replicate n [.lit (.int .i64 0)]) = bl intRow 1 (List.replicate n 0) := by simp [bl, intRow]
attribute [go_sem] makeI_ints
@[go_sem] theorem rowsOf_sl (l : List α) : rowsOf σ (sl f l) = some (l.map f) := rfl
@[go_sem] theorem rowsOf_nil : rowsOf σ (.lit (.slice none 0 0)) = some [] := rfl
@[go_sem] theorem frzU_sl (m : Nat) (u : Fu) (top : Bool) (l : List α) : frzU m σ (.s u) top (sl f l) = sl f l := rfl
@[go_sem] theorem frzOs_bl (m : Nat) (u : Fu) (wd off len : Nat) (l : List α) (h : off + len ≤ l.length) : frzOs m σ u (bl f wd l) off len = sl f ((l.drop off).take len) := by
  rw [bl, frzOs_flat _ _ _ _ _ _ _ (by simpa using h)]
  simp [sl, List.map_take, List.map_drop]
@[go_sem] theorem fzB_bl (wd off len : Nat) (l : List α) (h : off + len ≤ l.length) : fzB (bl f wd l) off len = sl f ((l.drop off).take len) := by
  rw [bl, fzB_flat _ _ _ _ (by simpa using h)]
  simp [sl, List.map_take, List.map_drop]
@[go_sem] theorem nlV_sl (k : Nat) (l : List α) : nlV k (sl f l) = sl f l := by cases k <;> rfl
theorem ps_nil : AV.ps [] = sl f [] := rfl
@[go_sem] theorem fzV_sl (F : List Nat) (l : List α) : fzV F σ 6 (sl f l) = sl f l := rfl
@[go_sem] theorem fzV_sl5 (F : List Nat) (l : List α) : fzV F σ 5 (sl f l) = sl f l := rfl
/-- What an own slice holds. -/
def rowsB (B : Blk) (off len : Nat) : Option (List (List AV)) :=
  match B with
  | .flat _ rows => if off + len ≤ rows.length then some ((rows.drop off).take len) else none
  | _ => none
@[go_sem] theorem rowsOf_os (id off len : Nat) : rowsOf σ (.os id off len) = rowsB (σ.h id) off len := by
  cases hB : σ.h id <;> simp [rowsOf, rowsB, hB]
@[go_sem] theorem rowsB_bl (wd off len : Nat) (l : List α) (h : off + len ≤ l.length) : rowsB (bl f wd l) off len = some (((l.drop off).take len).map f) := by
  simp [rowsB, bl, h, List.map_take, List.map_drop]
@[go_sem] theorem rowsB_flat (wd off len : Nat) (rows : List (List AV)) (h : off + len ≤ rows.length) : rowsB (.flat wd rows) off len = some ((rows.drop off).take len) := by
  simp [rowsB, h]

/-- The next part of an append. -/
def appO (x : AV) (new : Option (List (List AV))) (ne : Prop) (j : TI) (e : Env) (σ : St) (K : KT) : Prop :=
  match new with
  | none => False
  | some new => (∀ row ∈ new, row.length = j.cells ∧ ∀ a ∈ row, a.isCell = true) ∧
    match x with
    | .lit (.slice none 0 0) => new.length ≤ 4294967296 ∧ K (.os σ.n 0 new.length) e (σ.new (.flat j.cells new))
    | .os id off len => off = 0 ∧ len + new.length ≤ 4294967296 ∧
      match σ.h id with
      | .flat wd rows => wd = j.cells ∧ len ≤ rows.length ∧ ne ∧ K (.os σ.n 0 (len + new.length)) e ((σ.put id .dead).new (.flat wd (rows.take len ++ new)))
      | _ => False
    | _ => False
def apartA (x y : AV) : Prop :=
  match x with
  | .os id _ _ => ∀ off' len', y ≠ .os id off' len'
  | _ => True
def appP (P : Program) (sl : Option Nat) (x y : AV) (e : Env) (σ : St) (K : KT) : Prop :=
  match sl with
  | some el => withTI P el fun j => 0 < j.cells ∧ j.zero.length = j.cells ∧ j.bytes ≤ 4096 ∧ appO x (rowsOf σ y) (apartA x y) j e σ K
  | none => False
@[go_sem] theorem appendA_eq (t u : TypeId) (x y : AV) : appendA P t u x y e σ K = withTI P t fun i => (withTI P u fun i2 => i2.slice.isSome = true) ∧ appP P i.slice x y e σ K := by
  unfold appendA appP appO apartA
  congr 1
  funext i
  congr 1
  cases i.slice with
  | none => rfl
  | some el =>
    simp only
    congr 1
    funext j
    congr 3
    cases rowsOf σ y with
    | none => rfl
    | some new =>
      simp only
      congr 1
      cases x with
      | lit v => cases v with
        | slice a n m => cases a with
          | none => cases n <;> cases m <;> rfl
          | some a => rfl
        | _ => rfl
      | ps rows => cases rows <;> simp
      | _ => rfl
@[go_sem] theorem appP_some (el : Nat) (x y : AV) : appP P (some el) x y e σ K = withTI P el fun j => 0 < j.cells ∧ j.zero.length = j.cells ∧ j.bytes ≤ 4096 ∧ appO x (rowsOf σ y) (apartA x y) j e σ K := rfl
@[go_sem] theorem apartA_os_sl (id off len : Nat) (l : List α) : apartA (.os id off len) (sl f l) = True := by simp [apartA, sl]
@[go_sem] theorem apartA_os_ps (id off len : Nat) (l : List (List AV)) : apartA (.os id off len) (.ps l) = True := by simp [apartA]
@[go_sem] theorem apartA_os_nil (id off len : Nat) : apartA (.os id off len) (.lit (.slice none 0 0)) = True := by simp [apartA]
@[go_sem] theorem apartA_os_os (id off len id' off' len' : Nat) : apartA (.os id off len) (.os id' off' len') = (¬ id' = id) := by
  apply propext
  constructor
  · intro h he; subst he; exact h off' len' rfl
  · intro h o l he; injection he with h1 h2 h3; exact h h1
@[go_sem] theorem appO_nil (new : List (List AV)) (ne : Prop) (j : TI) (h : new.length ≤ 4294967296) : appO (.lit (.slice none 0 0)) (some new) ne j e σ K = ((∀ row ∈ new, row.length = j.cells ∧ ∀ a ∈ row, a.isCell = true) ∧ K (.os σ.n 0 new.length) e (σ.new (.flat j.cells new))) := by simp [appO, h]
def appB (B : Blk) (id len : Nat) (new : List (List AV)) (ne : Prop) (j : TI) (e : Env) (σ : St) (K : KT) : Prop :=
  match B with
  | .flat wd rows => wd = j.cells ∧ len ≤ rows.length ∧ ne ∧ K (.os σ.n 0 (len + new.length)) e ((σ.put id .dead).new (.flat wd (rows.take len ++ new)))
  | _ => False
@[go_sem] theorem appO_os (id len : Nat) (new : List (List AV)) (ne : Prop) (j : TI) (h : len + new.length ≤ 4294967296) : appO (.os id 0 len) (some new) ne j e σ K = ((∀ row ∈ new, row.length = j.cells ∧ ∀ a ∈ row, a.isCell = true) ∧ appB (σ.h id) id len new ne j e σ K) := by
  simp only [appO, appB, h, true_and]
/-- Whole numbers are appended to whole numbers. -/
@[go_sem] theorem appB_bl (wd id len : Nat) (l m : List α) (ne : Prop) (j : TI) (h : len ≤ l.length) : appB (bl f wd l) id len (m.map f) ne j e σ K = (wd = j.cells ∧ ne ∧ K (.os σ.n 0 (len + m.length)) e ((σ.put id .dead).new (bl f wd (l.take len ++ m)))) := by
  simp [appB, bl, h, List.map_take]
@[go_sem] theorem appB_flat (wd id len : Nat) (rows new : List (List AV)) (ne : Prop) (j : TI) (h : len ≤ rows.length) : appB (.flat wd rows) id len new ne j e σ K = (wd = j.cells ∧ ne ∧ K (.os σ.n 0 (len + new.length)) e ((σ.put id .dead).new (.flat wd (rows.take len ++ new)))) := by
  simp [appB, h]
@[go_sem] theorem appB_int (id len : Nat) (l : List Int) (n : Int) (ne : Prop) (j : TI) (h : len ≤ l.length) : appB (bl intRow 1 l) id len [[.lit (.int .i64 n)]] ne j e σ K = (1 = j.cells ∧ ne ∧ K (.os σ.n 0 (len + 1)) e ((σ.put id .dead).new (bl intRow 1 (l.take len ++ [n])))) :=
  appB_bl e σ K intRow 1 id len l [n] ne j h
@[go_sem] theorem cells_ok_ints (l : List Int) (n : Nat) : (∀ row ∈ l.map intRow, row.length = n ∧ ∀ a ∈ row, a.isCell = true) = (l = [] ∨ 1 = n) := by
  apply propext
  cases l with
  | nil => simp
  | cons x l =>
    simp [intRow, AV.isCell]
    intro h _ _; exact h
@[go_sem] theorem St_put_put (i j : Nat) (B C : Blk) (h : i ≤ j) (h' : j ≤ i) : (σ.put i B).put j C = σ.put j C := by
  have : i = j := by omega
  subst this
  simp only [St.put]
  congr 1
  funext k
  split <;> rfl
theorem put_self (i : Nat) (B : Blk) (h : σ.h i = B) : σ.put i B = σ := by
  subst h
  obtain ⟨n, hh⟩ := σ
  simp only [St.put]
  congr 1
  funext k
  split
  · rename_i h; subst h; rfl
  · rfl
end
end Go.Proofs.Qqz
