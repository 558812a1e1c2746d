/- Equations by which the abstract walk is carried out. -/
import Derived.Test.YtanoekhdoelkbaaGreatWalk
set_option linter.unusedSimpArgs false
set_option linter.unusedVariables false
namespace Go.Proofs.Qqz
open Go

section
variable (P : Program) (ops : Array Oper) (Q : Env → St → Prop) (e : Env) (σ : St) (K : KT) (rest : List Oper)

@[go_sem ↓] theorem opsA_nil : opsA P ops [] Q e σ = Q e σ := by simp only [opsA]
@[go_sem ↓] theorem opsA_cons0 (d : Option Tmp) (op : Op) (ty : TypeId) (pos : String) (af : Array Edge) :
    opsA P ops (⟨d, op, ty, pos, af, none⟩ :: rest) Q e σ = opA P op e σ (konA P ops d rest Q) := by simp only [opsA]; rfl

/-- What follows an operation. -/
def konF (P : Program) (ops : Array Oper) (dst : Option Tmp) (rest : List Oper) (Q : Env → St → Prop) : KT := fun av e σ => opsF P ops rest Q (putE e dst av) σ
@[go_sem ↓] theorem opsF_nil : opsF P ops [] Q e σ = Q e σ := by simp only [opsF]
@[go_sem ↓] theorem opsF_cons0 (d : Option Tmp) (op : Op) (ty : TypeId) (pos : String) (af : Array Edge) :
    opsF P ops (⟨d, op, ty, pos, af, none⟩ :: rest) Q e σ = opF P op e σ (konF P ops d rest Q) := by simp only [opsF]; rfl
@[go_sem ↓] theorem konF_apply (d : Option Tmp) (v : AV) : konF P ops d rest Q v e σ = opsF P ops rest Q (putE e d v) σ := rfl
@[go_sem ↓] theorem opF_call (f : Operand) (args : Array Operand) (ts : Array TypeId) : opF P (.call ⟨.value f, args, ts⟩) e σ K = callF P (evA e f) (args.toList.map (evA e)) e σ K := rfl
theorem callF_id (f f' : AV) (l l' : List AV) (hf : f = f') (hl : l = l') : callF P f l e σ K = callF P f' l' e σ K := by rw [hf, hl]
theorem opsF_id (l : List Oper) : opsF P ops l Q e σ = opsF P ops l Q e σ := rfl
theorem konF_id (d : Option Tmp) : konF P ops d rest Q = konF P ops d rest Q := rfl
attribute [congr] callF_id opsF_id konF_id
/-- A guarded operation: its guard's value at hand. -/
def gF (P : Program) (ops : Array Oper) (v : AV) (want : Bool) (op : Op) (d : Option Tmp) (rest : List Oper) (Q : Env → St → Prop) (e : Env) (σ : St) : Prop :=
  match v with
  | .lit (.bool b) => (b = want → opF P op e σ (konF P ops d rest Q)) ∧ (b = (!want) → opsF P ops rest Q (putE e d (.lit undef)) σ)
  | .lit (.tuple _) => opsF P ops rest Q (putE e d (.lit undef)) σ
  | _ => False
def gslF (ops : Array Oper) (g : Nat) (K : Tmp → Prop) : Prop :=
  match gsl ops g with
  | some d => K d
  | none => False
@[go_sem ↓] theorem opsF_consg (d : Option Tmp) (op : Op) (ty : TypeId) (pos : String) (af : Array Edge) (g : Nat) (want : Bool) :
    opsF P ops (⟨d, op, ty, pos, af, some (g, want)⟩ :: rest) Q e σ = gslF ops g (fun d' => gF P ops (e d') want op d rest Q e σ) := by
  simp only [opsF, gslF]
  cases gsl ops g with
  | none => rfl
  | some d' =>
    simp only [gF]
    cases e d' with
    | lit v => cases v <;> rfl
    | _ => rfl
@[go_sem ↓] theorem gslF_lit (l : List Oper) (g : Nat) (K : Tmp → Prop) : gslF ⟨l⟩ g K = (match (l[g]?).bind (·.dst) with | some d => K d | none => False) := by
  simp [gslF, gsl]
@[go_sem] theorem gF_tt (op : Op) (d : Option Tmp) : gF P ops (.lit (.bool true)) true op d rest Q e σ = opF P op e σ (konF P ops d rest Q) := by simp [gF]
@[go_sem] theorem gF_ff (op : Op) (d : Option Tmp) : gF P ops (.lit (.bool false)) false op d rest Q e σ = opF P op e σ (konF P ops d rest Q) := by simp [gF]
@[go_sem] theorem gF_tf (op : Op) (d : Option Tmp) : gF P ops (.lit (.bool true)) false op d rest Q e σ = opsF P ops rest Q (putE e d (.lit undef)) σ := by simp [gF]
@[go_sem] theorem gF_ft (op : Op) (d : Option Tmp) : gF P ops (.lit (.bool false)) true op d rest Q e σ = opsF P ops rest Q (putE e d (.lit undef)) σ := by simp [gF]
@[go_sem] theorem gF_undef (want : Bool) (op : Op) (d : Option Tmp) : gF P ops (.lit undef) want op d rest Q e σ = opsF P ops rest Q (putE e d (.lit undef)) σ := rfl
theorem gF_id (v v' : AV) (want : Bool) (op : Op) (d : Option Tmp) (hv : v = v') : gF P ops v want op d rest Q e σ = gF P ops v' want op d rest Q e σ := by rw [hv]
attribute [congr] gF_id
/-- A guarded operation: its guard's value at hand. -/
def gA (P : Program) (ops : Array Oper) (v : AV) (want : Bool) (op : Op) (d : Option Tmp) (rest : List Oper) (Q : Env → St → Prop) (e : Env) (σ : St) : Prop :=
  match v with
  | .lit (.bool b) => (b = want → opA P op e σ (konA P ops d rest Q)) ∧ (b = (!want) → opsA P ops rest Q (putE e d (.lit undef)) σ)
  | .lit (.tuple _) => opsA P ops rest Q (putE e d (.lit undef)) σ
  | _ => False

def gslA (ops : Array Oper) (g : Nat) (K : Tmp → Prop) : Prop :=
  match gsl ops g with
  | some d => K d
  | none => False

@[go_sem ↓] theorem opsA_consg (d : Option Tmp) (op : Op) (ty : TypeId) (pos : String) (af : Array Edge) (g : Nat) (want : Bool) :
    opsA P ops (⟨d, op, ty, pos, af, some (g, want)⟩ :: rest) Q e σ = gslA ops g (fun d' => gA P ops (e d') want op d rest Q e σ) := by
  simp only [opsA, gslA]
  cases gsl ops g with
  | none => rfl
  | some d' =>
    simp only [gA]
    cases e d' with
    | lit v => cases v <;> rfl
    | _ => rfl

@[go_sem ↓] theorem gslA_lit (l : List Oper) (g : Nat) (K : Tmp → Prop) : gslA ⟨l⟩ g K = (match (l[g]?).bind (·.dst) with | some d => K d | none => False) := by
  simp [gslA, gsl]

theorem gA_bool (b want : Bool) (op : Op) (d : Option Tmp) : gA P ops (.lit (.bool b)) want op d rest Q e σ =
    ((b = want → opA P op e σ (konA P ops d rest Q)) ∧ (b = (!want) → opsA P ops rest Q (putE e d (.lit undef)) σ)) := rfl
@[go_sem] theorem gA_tt (op : Op) (d : Option Tmp) : gA P ops (.lit (.bool true)) true op d rest Q e σ = opA P op e σ (konA P ops d rest Q) := by simp [gA]
@[go_sem] theorem gA_ff (op : Op) (d : Option Tmp) : gA P ops (.lit (.bool false)) false op d rest Q e σ = opA P op e σ (konA P ops d rest Q) := by simp [gA]
@[go_sem] theorem gA_tf (op : Op) (d : Option Tmp) : gA P ops (.lit (.bool true)) false op d rest Q e σ = opsA P ops rest Q (putE e d (.lit undef)) σ := by simp [gA]
@[go_sem] theorem gA_ft (op : Op) (d : Option Tmp) : gA P ops (.lit (.bool false)) true op d rest Q e σ = opsA P ops rest Q (putE e d (.lit undef)) σ := by simp [gA]
@[go_sem] theorem gA_undef (want : Bool) (op : Op) (d : Option Tmp) : gA P ops (.lit undef) want op d rest Q e σ = opsA P ops rest Q (putE e d (.lit undef)) σ := rfl

@[go_sem ↓] theorem konA_apply (d : Option Tmp) (v : AV) : konA P ops d rest Q v e σ = opsA P ops rest Q (putE e d v) σ := rfl
@[go_sem ↓] theorem putE_some (i : Nat) (v : AV) : putE e (some i) v = upd e i v := rfl
@[go_sem ↓] theorem putE_none (v : AV) : putE e none v = e := rfl
@[go_sem ↓] theorem upd_get (i : Nat) (v : AV) (j : Nat) : upd e i v j = if j = i then v else e j := rfl
@[go_sem ↓] theorem evA_tmp (t : Nat) : evA e (.tmp t) = e t := rfl
@[go_sem ↓] theorem evA_const (v : Value) : evA e (.const v) = .lit v := rfl
@[go_sem ↓] theorem evA_func (f : Nat) : evA e (.func f) = .clo f [] := rfl
@[go_sem] theorem initE_get (l : List AV) (i : Nat) : initE l i = l.getD i .any := rfl

@[go_sem ↓] theorem opA_move (x : Operand) : opA P (.move x) e σ K = K (evA e x) e σ := rfl
@[go_sem ↓] theorem opA_assign (x : Operand) : opA P (.assign x) e σ K = K (evA e x) e σ := rfl
@[go_sem ↓] theorem opA_pick (c a b : Operand) : opA P (.pick c a b) e σ K = pickA (evA e c) (evA e a) (evA e b) e σ K := rfl
theorem pickA_bool (t : Bool) (a b : AV) : pickA (.lit (.bool t)) a b e σ K = ((t = true → K a e σ) ∧ (t = false → K b e σ)) := rfl
@[go_sem] theorem pickA_t (a b : AV) : pickA (.lit (.bool true)) a b e σ K = K a e σ := by simp [pickA]
@[go_sem] theorem pickA_f (a b : AV) : pickA (.lit (.bool false)) a b e σ K = K b e σ := by simp [pickA]
@[go_sem ↓] theorem opA_alloc (t : TypeId) : opA P (.alloc t) e σ K = withTI P t fun i => K (.ptr σ.n 0 0) e (σ.new (.deep i.zero.length [i.zero.map .lit])) := rfl
@[go_sem ↓] theorem opA_box (t : TypeId) (x : Operand) : opA P (.box t x) e σ K = boxA (evA e x) e σ K := rfl
@[go_sem] theorem boxA_agg (l : List AV) : boxA (.agg l) e σ K = K (.ptr σ.n 0 0) e (σ.new (.deep l.length [l])) := rfl
@[go_sem] theorem boxA_ps (l : List (List AV)) : boxA (.ps l) e σ K = K (.ptr σ.n 0 0) e (σ.new (.deep 1 [[.ps l]])) := rfl
@[go_sem] theorem boxA_os (i o l : Nat) : boxA (.os i o l) e σ K = K (.ptr σ.n 0 0) e (σ.new (.deep 1 [[.os i o l]])) := rfl
@[go_sem] theorem boxA_pa (r : List AV) (c : Nat) : boxA (.pa r c) e σ K = K (.ptr σ.n 0 0) e (σ.new (.deep 1 [[.pa r c]])) := rfl
@[go_sem] theorem boxA_ptr (i o l : Nat) : boxA (.ptr i o l) e σ K = K (.ptr σ.n 0 0) e (σ.new (.deep 1 [[.ptr i o l]])) := rfl
@[go_sem] theorem boxA_int (k : IntKind) (n : Int) : boxA (.lit (.int k n)) e σ K = K (.ptr σ.n 0 0) e (σ.new (.deep 1 [[.lit (.int k n)]])) := rfl
@[go_sem] theorem boxA_bool (b : Bool) : boxA (.lit (.bool b)) e σ K = K (.ptr σ.n 0 0) e (σ.new (.deep 1 [[.lit (.bool b)]])) := rfl
@[go_sem] theorem boxA_str (s : ByteArray) : boxA (.lit (.string s)) e σ K = K (.ptr σ.n 0 0) e (σ.new (.deep 1 [[.lit (.string s)]])) := rfl
@[go_sem ↓] theorem opA_build (t : TypeId) (ps : Array (Nat × Operand)) : opA P (.build t ps) e σ K = buildA P t (partsE e ps.toList) e σ K := rfl
@[go_sem ↓] theorem opA_buildSlice (t : TypeId) (n : Nat) (ps : Array (Nat × Operand)) : opA P (.buildSlice t n ps) e σ K = buildSliceA P t n (partsE e ps.toList) e σ K := rfl
@[go_sem ↓] theorem opA_load (t : TypeId) (x : Operand) : opA P (.load t x) e σ K = loadA P t (evA e x) e σ K := rfl
@[go_sem ↓] theorem opA_store (t : TypeId) (x y : Operand) : opA P (.store t x y) e σ K = storeA P t (evA e x) (evA e y) e σ K := rfl
@[go_sem ↓] theorem opA_nilCheck (x : Operand) : opA P (.nilCheck x) e σ K = nilCheckA (evA e x) e σ K := rfl
@[go_sem] theorem nilCheckA_pa (r : List AV) (c : Nat) : nilCheckA (.pa r c) e σ K = K (.pa r c) e σ := rfl
@[go_sem] theorem nilCheckA_ptr (i r c : Nat) : nilCheckA (.ptr i r c) e σ K = K (.ptr i r c) e σ := rfl
@[go_sem] theorem nilCheckA_clo (f : Nat) (l : List AV) : nilCheckA (.clo f l) e σ K = K (.clo f l) e σ := rfl
@[go_sem ↓] theorem opA_binOp (op : BinOp) (t u : TypeId) (x y : Operand) : opA P (.binOp op t x y u) e σ K = binA P op t (evA e x) (evA e y) e σ K := rfl
@[go_sem] theorem binA_int (op : BinOp) (t : TypeId) (k : IntKind) (a b : Int) : binA P op t (.lit (.int k a)) (.lit (.int k b)) e σ K = intA op k a b e σ K := by simp [binA]
@[go_sem] theorem intA_add (k : IntKind) (a b : Int) : intA .add k a b e σ K = K (.lit (.int k (k.wrap (a + b)))) e σ := rfl
@[go_sem] theorem intA_sub (k : IntKind) (a b : Int) : intA .sub k a b e σ K = K (.lit (.int k (k.wrap (a - b)))) e σ := rfl
@[go_sem] theorem intA_mul (k : IntKind) (a b : Int) : intA .mul k a b e σ K = K (.lit (.int k (k.wrap (a * b)))) e σ := rfl
@[go_sem] theorem intA_quo (k : IntKind) (a b : Int) (h : b ≠ 0) : intA .quo k a b e σ K = K (.lit (.int k (k.wrap (a.tdiv b)))) e σ := by simp [intA, h]
@[go_sem] theorem intA_rem (k : IntKind) (a b : Int) (h : b ≠ 0) : intA .rem k a b e σ K = K (.lit (.int k (a.tmod b))) e σ := by simp [intA, h]
@[go_sem] theorem intA_eql (k : IntKind) (a b : Int) : intA .eql k a b e σ K = K (.lit (.bool (decide (a = b)))) e σ := rfl
@[go_sem] theorem intA_neq (k : IntKind) (a b : Int) : intA .neq k a b e σ K = K (.lit (.bool (!decide (a = b)))) e σ := rfl
@[go_sem] theorem intA_lss (k : IntKind) (a b : Int) : intA .lss k a b e σ K = K (.lit (.bool (decide (a < b)))) e σ := rfl
@[go_sem] theorem intA_leq (k : IntKind) (a b : Int) : intA .leq k a b e σ K = K (.lit (.bool (decide (a ≤ b)))) e σ := rfl
@[go_sem] theorem intA_gtr (k : IntKind) (a b : Int) : intA .gtr k a b e σ K = K (.lit (.bool (decide (b < a)))) e σ := rfl
@[go_sem] theorem intA_geq (k : IntKind) (a b : Int) : intA .geq k a b e σ K = K (.lit (.bool (decide (b ≤ a)))) e σ := rfl
@[go_sem] theorem binA_eq_str (t : TypeId) (a b : ByteArray) : binA P .eql t (.lit (.string a)) (.lit (.string b)) e σ K = K (.lit (.bool (decide (a.toList = b.toList)))) e σ := rfl
@[go_sem] theorem binA_ne_str (t : TypeId) (a b : ByteArray) : binA P .neq t (.lit (.string a)) (.lit (.string b)) e σ K = K (.lit (.bool (!decide (a.toList = b.toList)))) e σ := rfl
@[go_sem] theorem binA_add_str (t : TypeId) (a b : ByteArray) : binA P .add t (.lit (.string a)) (.lit (.string b)) e σ K = (a.size + b.size ≤ 4611686018427387904 ∧ K (.lit (.string (a ++ b))) e σ) := rfl
@[go_sem] theorem binA_eq_bool (t : TypeId) (a b : Bool) : binA P .eql t (.lit (.bool a)) (.lit (.bool b)) e σ K = (P.underlying t = some .bool ∧ K (.lit (.bool (a == b))) e σ) := rfl
@[go_sem] theorem binA_ne_bool (t : TypeId) (a b : Bool) : binA P .neq t (.lit (.bool a)) (.lit (.bool b)) e σ K = (P.underlying t = some .bool ∧ K (.lit (.bool (!(a == b)))) e σ) := rfl
@[go_sem] theorem binA_eq_ps (t : TypeId) (l : List (List AV)) : binA P .eql t (.ps l) (.lit (.slice none 0 0)) e σ K = ((∃ el, P.underlying t = some (.slice el)) ∧ ∀ b : Bool, (b = true → l = []) → K (.lit (.bool b)) e σ) := rfl
@[go_sem] theorem binA_eq_pa (t : TypeId) (r : List AV) (c : Nat) : binA P .eql t (.pa r c) (.lit (.pointer none)) e σ K = ((∃ el, P.underlying t = some (.pointer el)) ∧ K (.lit (.bool false)) e σ) := rfl
@[go_sem] theorem binA_eq_ptr (t : TypeId) (i r c : Nat) : binA P .eql t (.ptr i r c) (.lit (.pointer none)) e σ K = ((∃ el, P.underlying t = some (.pointer el)) ∧ K (.lit (.bool false)) e σ) := rfl
@[go_sem] theorem binA_eq_nil (t : TypeId) : binA P .eql t (.lit (.pointer none)) (.lit (.pointer none)) e σ K = ((∃ el, P.underlying t = some (.pointer el)) ∧ K (.lit (.bool true)) e σ) := rfl
@[go_sem] theorem binA_ne_pa (t : TypeId) (r : List AV) (c : Nat) : binA P .neq t (.pa r c) (.lit (.pointer none)) e σ K = ((∃ el, P.underlying t = some (.pointer el)) ∧ K (.lit (.bool true)) e σ) := rfl
@[go_sem] theorem binA_ne_ptr (t : TypeId) (i r c : Nat) : binA P .neq t (.ptr i r c) (.lit (.pointer none)) e σ K = ((∃ el, P.underlying t = some (.pointer el)) ∧ K (.lit (.bool true)) e σ) := rfl
@[go_sem] theorem binA_ne_nil (t : TypeId) : binA P .neq t (.lit (.pointer none)) (.lit (.pointer none)) e σ K = ((∃ el, P.underlying t = some (.pointer el)) ∧ K (.lit (.bool false)) e σ) := rfl
@[go_sem ↓] theorem opA_unOp (op : UnOp) (t : TypeId) (x : Operand) : opA P (.unOp op t x) e σ K = unA op (evA e x) e σ K := rfl
@[go_sem] theorem unA_not (b : Bool) : unA .not (.lit (.bool b)) e σ K = K (.lit (.bool (!b))) e σ := rfl
@[go_sem] theorem unA_neg (k : IntKind) (n : Int) : unA .neg (.lit (.int k n)) e σ K = K (.lit (.int k (k.wrap (0 - n)))) e σ := rfl
@[go_sem ↓] theorem opA_conv (s d : TypeId) (x : Operand) : opA P (.convert s d x) e σ K = ((P.underlying s).isSome = true ∧ convA P d (evA e x) e σ K) := rfl
@[go_sem ↓] theorem opA_makeFunc (fn : Fn) (a b : Array Operand) : opA P (.makeFunc fn a b) e σ K = makeFuncA fn (a.toList.map (evA e)) (b.toList.map (evA e)) e σ K := rfl
@[go_sem] theorem makeFuncA_func (f : Nat) (l : List AV) : makeFuncA (.func f) [] l e σ K = K (.clo f l) e σ := rfl
@[go_sem ↓] theorem opA_makeSlice (t : TypeId) (l c : Operand) : opA P (.makeSlice t l c) e σ K = makeA P t (evA e l) (evA e c) e σ K := rfl
@[go_sem ↓] theorem opA_slice (t : TypeId) (x : Operand) (l h m : Option Operand) : opA P (.slice t x l h m) e σ K = sliceA P t (evA e x) (l.map (evA e)) (h.map (evA e)) (m.map (evA e)) e σ K := rfl
@[go_sem ↓] theorem opA_fieldAddr (t : TypeId) (x : Operand) (f : Nat) : opA P (.fieldAddr t x f) e σ K = fieldAddrA P t (evA e x) f e σ K := rfl
@[go_sem ↓] theorem opA_field (t : TypeId) (x : Operand) (f : Nat) : opA P (.field t x f) e σ K = fieldA P t (evA e x) f e σ K := rfl
@[go_sem ↓] theorem opA_indexAddr (t : TypeId) (x i : Operand) : opA P (.indexAddr t x i) e σ K = indexAddrA P t (evA e x) (evA e i) e σ K := rfl
@[go_sem ↓] theorem opA_index (t : TypeId) (x i : Operand) : opA P (.index t x i) e σ K = indexA P t (evA e x) (evA e i) e σ K := rfl
@[go_sem ↓] theorem opA_extract (x : Operand) (i : Nat) : opA P (.extract x i) e σ K = extractA (evA e x) i e σ K := rfl
@[go_sem] theorem extractA_tup (l : List AV) (i : Nat) : extractA (.tup l) i e σ K = (i < l.length ∧ K (l.getD i .any) e σ) := rfl
@[go_sem ↓] theorem opA_call (c : Operand) (a : Array Operand) (t : Array TypeId) : opA P (.call ⟨.value c, a, t⟩) e σ K = callV P (evA e c) (a.toList.map (evA e)) e σ K := rfl
@[go_sem ↓] theorem opA_builtin (b : Builtin) (a : Array Operand) (t : Array TypeId) : opA P (.call ⟨.builtin b, a, t⟩) e σ K = builtinA P b t.toList (a.toList.map (evA e)) e σ K := rfl
@[go_sem] theorem callV_clo (f : Nat) (caps args : List AV) : callV P (.clo f caps) args e σ K = ACall P f ((args ++ caps).map (nlV 3)) e σ K := rfl
@[go_sem] theorem builtin_len (t : TypeId) (x : AV) : builtinA P .len [t] [x] e σ K = lenA P t x e σ K := rfl
@[go_sem] theorem builtin_append (t u : TypeId) (x y : AV) : builtinA P .append [t, u] [x, y] e σ K = appendA P t u x y e σ K := rfl
@[go_sem] theorem builtin_min (t : List TypeId) (k : IntKind) (x y : Int) : builtinA P .min t [.lit (.int k x), .lit (.int k y)] e σ K = K (.lit (.int k (if y < x then y else x))) e σ := by simp [builtinA, minA]
@[go_sem] theorem builtin_max (t : List TypeId) (k : IntKind) (x y : Int) : builtinA P .max t [.lit (.int k x), .lit (.int k y)] e σ K = K (.lit (.int k (if y > x then y else x))) e σ := by simp [builtinA, maxA]

/-! Regions drawn -/

/-- Something that holds of a value, and what follows with it. -/
def exQ (F : AV → Prop) (K : AV → Prop) : Prop := ∃ v, F v ∧ K v
theorem exQ.intro {F : AV → Prop} {K : AV → Prop} {v : AV} (h : F v) (hk : K v) : exQ F K := ⟨v, h, hk⟩
@[go_sem] theorem exQ_eq (v : AV) (K : AV → Prop) : exQ (fun u => v = u) K = K v := by simp [exQ]
@[go_sem] theorem exQ_and (c : Prop) (F : AV → Prop) (K : AV → Prop) : exQ (fun u => c ∧ F u) K = (c ∧ exQ F K) := by
  apply propext
  exact ⟨fun ⟨v, ⟨h1, h2⟩, h3⟩ => ⟨h1, v, h2, h3⟩, fun ⟨h1, v, h2, h3⟩ => ⟨v, ⟨h1, h2⟩, h3⟩⟩
/-- The quiet post. -/
def qK (v : AV) (σ0 : St) : KT := fun u _ s => u = v ∧ s = σ0
@[go_sem] theorem qK_same (v u : AV) (e : Env) (σ0 : St) : qK v σ0 u e σ0 = (u = v) := by simp [qK]
/-- The operations still to be looked at, with the rest. -/
def midN (P : Program) (ops : Array Oper) (al late : List Nat) (L : St → Prop) (i : Nat) (op : Op) (d : Option Tmp) (rest : List Oper) (R : Env → Prop) (e : Env) : Prop :=
  exQ (fun v => ∀ σ, L σ → opA P op e σ (qK v σ)) fun v => midA P ops al late L (i + 1) rest R (putE e d v)
def midH (P : Program) (ops : Array Oper) (al late : List Nat) (L : St → Prop) (i : Nat) (v : AV) (want : Bool) (op : Op) (d : Option Tmp) (rest : List Oper) (R : Env → Prop) (e : Env) : Prop :=
  match v with
  | .lit (.bool b) => (b = want → midN P ops al late L i op d rest R e) ∧ (b = (!want) → midA P ops al late L (i + 1) rest R (putE e d (.lit undef)))
  | .lit (.tuple _) => midA P ops al late L (i + 1) rest R (putE e d (.lit undef))
  | _ => False
section
variable (al late : List Nat) (L : St → Prop) (i : Nat) (R : Env → Prop)
@[go_sem ↓] theorem midA_nil : midA P ops al late L i [] R e = R e := rfl
@[go_sem ↓] theorem midA_cons0 (d : Option Tmp) (op : Op) (ty : TypeId) (pos : String) (af : Array Edge) :
    midA P ops al late L i (⟨d, op, ty, pos, af, none⟩ :: rest) R e = if midB al late i = true then midN P ops al late L i op d rest R e else midA P ops al late L (i + 1) rest R e := rfl
@[go_sem ↓] theorem midA_consg (d : Option Tmp) (op : Op) (ty : TypeId) (pos : String) (af : Array Edge) (g : Nat) (want : Bool) :
    midA P ops al late L i (⟨d, op, ty, pos, af, some (g, want)⟩ :: rest) R e = if midB al late i = true then gslA ops g (fun d' => midH P ops al late L i (e d') want op d rest R e) else midA P ops al late L (i + 1) rest R e := by
  simp only [midA, midG, gslA]
  congr 1
  cases gsl ops g with
  | none => rfl
  | some d' =>
    simp only [midH]
    cases e d' with
    | lit v => cases v <;> rfl
    | _ => rfl
@[go_sem] theorem midH_tt (op : Op) (d : Option Tmp) : midH P ops al late L i (.lit (.bool true)) true op d rest R e = midN P ops al late L i op d rest R e := by simp [midH]
@[go_sem] theorem midH_ff (op : Op) (d : Option Tmp) : midH P ops al late L i (.lit (.bool false)) false op d rest R e = midN P ops al late L i op d rest R e := by simp [midH]
@[go_sem] theorem midH_tf (op : Op) (d : Option Tmp) : midH P ops al late L i (.lit (.bool true)) false op d rest R e = midA P ops al late L (i + 1) rest R (putE e d (.lit undef)) := by simp [midH]
@[go_sem] theorem midH_ft (op : Op) (d : Option Tmp) : midH P ops al late L i (.lit (.bool false)) true op d rest R e = midA P ops al late L (i + 1) rest R (putE e d (.lit undef)) := by simp [midH]
@[go_sem] theorem midH_undef (want : Bool) (op : Op) (d : Option Tmp) : midH P ops al late L i (.lit undef) want op d rest R e = midA P ops al late L (i + 1) rest R (putE e d (.lit undef)) := rfl
@[go_sem ↓] theorem midN_one (op : Op) (d : Option Tmp) (σ0 : St) : midN P ops al late (fun s => s = σ0) i op d rest R e = exQ (fun v => opA P op e σ0 (qK v σ0)) fun v => midA P ops al late (fun s => s = σ0) (i + 1) rest R (putE e d v) := by simp [midN]
@[go_sem ↓] theorem midN_two (op : Op) (d : Option Tmp) (σ0 σ1 : St) : midN P ops al late (fun s => s = σ0 ∨ s = σ1) i op d rest R e = exQ (fun v => opA P op e σ0 (qK v σ0) ∧ opA P op e σ1 (qK v σ1)) fun v => midA P ops al late (fun s => s = σ0 ∨ s = σ1) (i + 1) rest R (putE e d v) := by simp [midN]
@[go_sem ↓] theorem midN_five (op : Op) (d : Option Tmp) (σ0 σ1 σ2 σ3 σ4 : St) : midN P ops al late (fun s => s = σ0 ∨ s = σ1 ∨ s = σ2 ∨ s = σ3 ∨ s = σ4) i op d rest R e =
    exQ (fun v => opA P op e σ0 (qK v σ0) ∧ opA P op e σ1 (qK v σ1) ∧ opA P op e σ2 (qK v σ2) ∧ opA P op e σ3 (qK v σ3) ∧ opA P op e σ4 (qK v σ4)) fun v => midA P ops al late (fun s => s = σ0 ∨ s = σ1 ∨ s = σ2 ∨ s = σ3 ∨ s = σ4) (i + 1) rest R (putE e d v) := by simp [midN]
@[go_sem ↓] theorem midB_nil : midB [] [] i = true := rfl
@[go_sem ↓] theorem midB_al (a : Nat) : midB (a :: al) late i = if i = a then false else midB al late i := by
  unfold midB
  simp only [List.contains_cons]
  by_cases h : i = a
  · subst h; simp
  · have h2 : (i == a) = false := by simpa using h
    simp [h2, h]
@[go_sem ↓] theorem midB_late (a : Nat) : midB [] (a :: late) i = if i = a then false else midB [] late i := by
  unfold midB
  simp only [List.contains_cons]
  by_cases h : i = a
  · subst h; simp
  · have h2 : (i == a) = false := by simpa using h
    simp [h2, h]
theorem midA_id (l : List Oper) : midA P ops al late L i l R e = midA P ops al late L i l R e := rfl
theorem midH_id (v v' : AV) (want : Bool) (op : Op) (d : Option Tmp) (hv : v = v') : midH P ops al late L i v want op d rest R e = midH P ops al late L i v' want op d rest R e := by rw [hv]
theorem exQ_id (F F' : AV → Prop) (K : AV → Prop) (h : ∀ v, F v = F' v) : exQ F K = exQ F' K := by rw [funext h]
attribute [congr] midA_id midH_id exQ_id
end

theorem konA_id (d : Option Tmp) : konA P ops d rest Q = konA P ops d rest Q := rfl
theorem opsA_id (l : List Oper) : opsA P ops l Q e σ = opsA P ops l Q e σ := rfl
theorem Sat_id (N : Nat) (c : Code) (Q : Exit → Env → St → Prop) : Sat P N c Q e σ = Sat P N c Q e σ := rfl
theorem thenQ_id (Q : Exit → Env → St → Prop) (K : Env → St → Prop) : thenQ K Q = thenQ K Q := rfl
theorem blockQ_id (i : Nat) (Q : Exit → Env → St → Prop) : blockQ i Q = blockQ i Q := rfl
theorem loopQ_id {T : Type} (I : T → Env → St → Prop) (μ : T → Nat) (t : T) (Q : Exit → Env → St → Prop) : loopQ I μ t Q = loopQ I μ t Q := rfl
theorem retQ_id (rs : List ResultVar) (Kv : AV → St → Prop) : retQ P rs Kv = retQ P rs Kv := rfl
theorem upd_id (i : Nat) (v : AV) : upd e i v = upd e i v := rfl
theorem ACall_id (f : FuncId) (l l' : List AV) (hl : l = l') : ACall P f l e σ K = ACall P f l' e σ K := by rw [hl]
theorem gA_id (v v' : AV) (want : Bool) (op : Op) (d : Option Tmp) (hv : v = v') : gA P ops v want op d rest Q e σ = gA P ops v' want op d rest Q e σ := by rw [hv]
attribute [congr] konA_id opsA_id Sat_id thenQ_id blockQ_id loopQ_id retQ_id upd_id ACall_id gA_id

@[go_sem ↓] theorem opF_move (x : Operand) : opF P (.move x) e σ K = K (evA e x) e σ := rfl
@[go_sem ↓] theorem opF_assign (x : Operand) : opF P (.assign x) e σ K = K (evA e x) e σ := rfl
@[go_sem ↓] theorem opF_pick (c a b : Operand) : opF P (.pick c a b) e σ K = pickA (evA e c) (evA e a) (evA e b) e σ K := rfl
@[go_sem ↓] theorem opF_alloc (t : TypeId) : opF P (.alloc t) e σ K = withTI P t fun i => K (.ptr σ.n 0 0) e (σ.new (.deep i.zero.length [i.zero.map .lit])) := rfl
@[go_sem ↓] theorem opF_box (t : TypeId) (x : Operand) : opF P (.box t x) e σ K = boxA (evA e x) e σ K := rfl
@[go_sem ↓] theorem opF_build (t : TypeId) (ps : Array (Nat × Operand)) : opF P (.build t ps) e σ K = buildA P t (partsE e ps.toList) e σ K := rfl
@[go_sem ↓] theorem opF_buildSlice (t : TypeId) (n : Nat) (ps : Array (Nat × Operand)) : opF P (.buildSlice t n ps) e σ K = buildSliceA P t n (partsE e ps.toList) e σ K := rfl
@[go_sem ↓] theorem opF_load (t : TypeId) (x : Operand) : opF P (.load t x) e σ K = loadA P t (evA e x) e σ K := rfl
@[go_sem ↓] theorem opF_store (t : TypeId) (x y : Operand) : opF P (.store t x y) e σ K = storeA P t (evA e x) (evA e y) e σ K := rfl
@[go_sem ↓] theorem opF_nilCheck (x : Operand) : opF P (.nilCheck x) e σ K = nilCheckA (evA e x) e σ K := rfl
@[go_sem ↓] theorem opF_binOp (op : BinOp) (t u : TypeId) (x y : Operand) : opF P (.binOp op t x y u) e σ K = binA P op t (evA e x) (evA e y) e σ K := rfl
@[go_sem ↓] theorem opF_unOp (op : UnOp) (t : TypeId) (x : Operand) : opF P (.unOp op t x) e σ K = unA op (evA e x) e σ K := rfl
@[go_sem ↓] theorem opF_conv (s d : TypeId) (x : Operand) : opF P (.convert s d x) e σ K = ((P.underlying s).isSome = true ∧ convA P d (evA e x) e σ K) := rfl
@[go_sem ↓] theorem opF_makeFunc (fn : Fn) (a b : Array Operand) : opF P (.makeFunc fn a b) e σ K = makeFuncA fn (a.toList.map (evA e)) (b.toList.map (evA e)) e σ K := rfl
@[go_sem ↓] theorem opF_makeSlice (t : TypeId) (l c : Operand) : opF P (.makeSlice t l c) e σ K = makeA P t (evA e l) (evA e c) e σ K := rfl
@[go_sem ↓] theorem opF_slice (t : TypeId) (x : Operand) (l h m : Option Operand) : opF P (.slice t x l h m) e σ K = sliceA P t (evA e x) (l.map (evA e)) (h.map (evA e)) (m.map (evA e)) e σ K := rfl
@[go_sem ↓] theorem opF_fieldAddr (t : TypeId) (x : Operand) (f : Nat) : opF P (.fieldAddr t x f) e σ K = fieldAddrA P t (evA e x) f e σ K := rfl
@[go_sem ↓] theorem opF_field (t : TypeId) (x : Operand) (f : Nat) : opF P (.field t x f) e σ K = fieldA P t (evA e x) f e σ K := rfl
@[go_sem ↓] theorem opF_indexAddr (t : TypeId) (x i : Operand) : opF P (.indexAddr t x i) e σ K = indexAddrA P t (evA e x) (evA e i) e σ K := rfl
@[go_sem ↓] theorem opF_index (t : TypeId) (x i : Operand) : opF P (.index t x i) e σ K = indexA P t (evA e x) (evA e i) e σ K := rfl
@[go_sem ↓] theorem opF_extract (x : Operand) (i : Nat) : opF P (.extract x i) e σ K = extractA (evA e x) i e σ K := rfl
@[go_sem ↓] theorem opF_builtin (b : Builtin) (a : Array Operand) (t : Array TypeId) : opF P (.call ⟨.builtin b, a, t⟩) e σ K = builtinA P b t.toList (a.toList.map (evA e)) e σ K := rfl
/-- Types: what is used of them, once it is known. -/
@[go_sem] theorem condA_t (N : Nat) (x y : Code) (Q : Exit → Env → St → Prop) : condA P N (.lit (.bool true)) x y Q e σ = Sat P N x Q e σ := by simp [condA]
@[go_sem] theorem condA_f (N : Nat) (x y : Code) (Q : Exit → Env → St → Prop) : condA P N (.lit (.bool false)) x y Q e σ = Sat P N y Q e σ := by simp [condA]
theorem condA_bool (N : Nat) (t : Bool) (x y : Code) (Q : Exit → Env → St → Prop) : condA P N (.lit (.bool t)) x y Q e σ = ((t = true → Sat P N x Q e σ) ∧ (t = false → Sat P N y Q e σ)) := rfl
@[go_sem] theorem thenQ_normal (K : Env → St → Prop) (Q : Exit → Env → St → Prop) : thenQ K Q .normal e σ = K e σ := rfl
@[go_sem] theorem thenQ_exit (K : Env → St → Prop) (Q : Exit → Env → St → Prop) (i : Nat) : thenQ K Q (.exit i) e σ = Q (.exit i) e σ := rfl
@[go_sem] theorem thenQ_ret (K : Env → St → Prop) (Q : Exit → Env → St → Prop) : thenQ K Q .ret e σ = Q .ret e σ := rfl
@[go_sem] theorem blockQ_normal (i : Nat) (Q : Exit → Env → St → Prop) : blockQ i Q .normal e σ = Q .normal e σ := rfl
@[go_sem] theorem blockQ_ret (i : Nat) (Q : Exit → Env → St → Prop) : blockQ i Q .ret e σ = Q .ret e σ := rfl
@[go_sem] theorem blockQ_exit (i j : Nat) (Q : Exit → Env → St → Prop) : blockQ i Q (.exit j) e σ = (if j = i then Q .normal e σ else Q (.exit j) e σ) := by simp only [blockQ]; split <;> rfl
@[go_sem] theorem loopQ_normal {T : Type} (I : T → Env → St → Prop) (μ : T → Nat) (t : T) (Q : Exit → Env → St → Prop) : loopQ I μ t Q .normal e σ = ∃ t', μ t' < μ t ∧ I t' e σ := rfl
@[go_sem] theorem loopQ_ret {T : Type} (I : T → Env → St → Prop) (μ : T → Nat) (t : T) (Q : Exit → Env → St → Prop) : loopQ I μ t Q .ret e σ = Q .ret e σ := rfl
@[go_sem] theorem loopQ_exit {T : Type} (I : T → Env → St → Prop) (μ : T → Nat) (t : T) (Q : Exit → Env → St → Prop) (i : Nat) : loopQ I μ t Q (.exit i) e σ = Q (.exit i) e σ := rfl
@[go_sem] theorem retQ_normal (rs : List ResultVar) (Kv : AV → St → Prop) : retQ P rs Kv .normal e σ = resA P rs e σ (oneA fun v => Kv v σ) := rfl
@[go_sem] theorem retQ_ret (rs : List ResultVar) (Kv : AV → St → Prop) : retQ P rs Kv .ret e σ = resA P rs e σ (oneA fun v => Kv v σ) := rfl
@[go_sem] theorem resA_nil (Kl : List AV → Prop) : resA P [] e σ Kl = Kl [] := rfl
@[go_sem] theorem resA_tmp (t : Nat) (rs : List ResultVar) (Kl : List AV → Prop) : resA P (.tmp t :: rs) e σ Kl = resA P rs e σ fun l => Kl (e t :: l) := rfl
@[go_sem] theorem resA_cell (p : Nat) (t : TypeId) (rs : List ResultVar) (Kl : List AV → Prop) : resA P (.cell p t :: rs) e σ Kl = loadA P t (e p) e σ fun av _ _ => resA P rs e σ fun l => Kl (av :: l) := rfl
@[go_sem] theorem oneA_one (Kv : AV → Prop) (x : AV) : oneA Kv [x] = Kv x := rfl
@[go_sem] theorem oneA_nil (Kv : AV → Prop) : oneA Kv [] = Kv (.tup []) := rfl
@[go_sem] theorem oneA_two (Kv : AV → Prop) (x y : AV) (l : List AV) : oneA Kv (x :: y :: l) = Kv (.tup (x :: y :: l)) := rfl

@[go_sem] theorem St_new_n (B : Blk) : (σ.new B).n = σ.n + 1 := rfl
@[go_sem] theorem St_put_n (i : Nat) (B : Blk) : (σ.put i B).n = σ.n := rfl
theorem St_new_h (B : Blk) (k : Nat) : (σ.new B).h k = if k = σ.n then B else σ.h k := rfl
theorem St_put_h (i : Nat) (B : Blk) (k : Nat) : (σ.put i B).h k = if k = i then B else σ.h k := rfl
@[go_sem] theorem St_new_same (B : Blk) (k : Nat) (h : k ≤ σ.n) (h' : σ.n ≤ k) : (σ.new B).h k = B := by simp [St_new_h]; omega
@[go_sem] theorem St_new_ne (B : Blk) (k : Nat) (h : ¬ k = σ.n) : (σ.new B).h k = σ.h k := by simp [St_new_h, h]
@[go_sem] theorem St_put_same (i : Nat) (B : Blk) (k : Nat) (h : k ≤ i) (h' : i ≤ k) : (σ.put i B).h k = B := by simp [St_put_h]; omega
@[go_sem] theorem St_put_ne (i : Nat) (B : Blk) (k : Nat) (h : ¬ k = i) : (σ.put i B).h k = σ.h k := by simp [St_put_h, h]

section
variable (k : Nat)
@[go_sem] theorem nlV_nil : nlV (k + 1) (.lit (.slice none 0 0)) = .ps [] := rfl
@[go_sem] theorem nlV_int (i : IntKind) (n : Int) : nlV k (.lit (.int i n)) = .lit (.int i n) := by cases k <;> rfl
@[go_sem] theorem nlV_bool (b : Bool) : nlV k (.lit (.bool b)) = .lit (.bool b) := by cases k <;> rfl
@[go_sem] theorem nlV_string (b : ByteArray) : nlV k (.lit (.string b)) = .lit (.string b) := by cases k <;> rfl
@[go_sem] theorem nlV_pointer (b : Option Addr) : nlV k (.lit (.pointer b)) = .lit (.pointer b) := by cases k <;> rfl
@[go_sem] theorem nlV_undef : nlV k (.lit undef) = .lit undef := by cases k <;> rfl
@[go_sem] theorem nlV_ps (l : List (List AV)) : nlV k (.ps l) = .ps l := by cases k <;> rfl
@[go_sem] theorem nlV_pa (l : List AV) (c : Nat) : nlV k (.pa l c) = .pa l c := by cases k <;> rfl
@[go_sem] theorem nlV_os (i o l : Nat) : nlV k (.os i o l) = .os i o l := by cases k <;> rfl
@[go_sem] theorem nlV_ptr (i o l : Nat) : nlV k (.ptr i o l) = .ptr i o l := by cases k <;> rfl
@[go_sem] theorem nlV_clo (f : Nat) (l : List AV) : nlV k (.clo f l) = .clo f l := by cases k <;> rfl
@[go_sem] theorem nlV_any : nlV k .any = .any := by cases k <;> rfl
@[go_sem] theorem nlV_agg (l : List AV) : nlV (k + 1) (.agg l) = .agg (l.map (nlV k)) := rfl
@[go_sem] theorem nlV_tup (l : List AV) : nlV (k + 1) (.tup l) = .tup (l.map (nlV k)) := rfl
end
def fzB (B : Blk) (off len : Nat) : AV := match B with
  | .flat _ rows => if off + len ≤ rows.length then .ps ((rows.drop off).take len) else .any
  | _ => .any
section
variable (x : Nat)
@[go_sem ↓] theorem fzE_get (F : List Nat) (j : Nat) : fzE F σ e j = fzV F σ 6 (e j) := rfl
@[go_sem] theorem fzV_lit (F : List Nat) (v : Value) : fzV F σ 6 (.lit v) = .lit v := rfl
@[go_sem] theorem fzV_ps (F : List Nat) (l : List (List AV)) : fzV F σ 6 (.ps l) = .ps l := rfl
@[go_sem] theorem fzV_pa (F : List Nat) (l : List AV) (c : Nat) : fzV F σ 6 (.pa l c) = .pa l c := rfl
@[go_sem] theorem fzV_clo (F : List Nat) (f : Nat) : fzV F σ 6 (.clo f []) = .clo f [] := rfl
@[go_sem] theorem fzV_agg (F : List Nat) (l : List AV) : fzV F σ 6 (.agg l) = .agg (l.map (fzV F σ 5)) := rfl
@[go_sem] theorem fzV_tup (F : List Nat) (l : List AV) : fzV F σ 6 (.tup l) = .tup (l.map (fzV F σ 5)) := rfl
@[go_sem] theorem fzV_lit5 (F : List Nat) (v : Value) : fzV F σ 5 (.lit v) = .lit v := rfl
@[go_sem] theorem fzV_ps5 (F : List Nat) (l : List (List AV)) : fzV F σ 5 (.ps l) = .ps l := rfl
@[go_sem] theorem fzV_pa5 (F : List Nat) (l : List AV) (c : Nat) : fzV F σ 5 (.pa l c) = .pa l c := rfl
@[go_sem] theorem fzV_os (id off len : Nat) (h : ¬ id = x) : fzV [x] σ 6 (.os id off len) = .os id off len := by simp [fzV, h]
@[go_sem] theorem fzV_os_same (id off len : Nat) (h : id ≤ x) (h' : x ≤ id) : fzV [x] σ 6 (.os id off len) = fzB (σ.h id) off len := by
  have : id = x := by omega
  subst this; simp only [fzV, fzB]; simp; rfl
@[go_sem] theorem fzV_ptr (id off len : Nat) (h : ¬ id = x) : fzV [x] σ 6 (.ptr id off len) = .ptr id off len := by simp [fzV, h]
@[go_sem] theorem fzV_os5 (id off len : Nat) (h : ¬ id = x) : fzV [x] σ 5 (.os id off len) = .os id off len := by simp [fzV, h]
@[go_sem] theorem fzV_os_same5 (id off len : Nat) (h : id ≤ x) (h' : x ≤ id) : fzV [x] σ 5 (.os id off len) = fzB (σ.h id) off len := by
  have : id = x := by omega
  subst this; simp only [fzV, fzB]; simp; rfl
@[go_sem] theorem fzB_flat (wd off len : Nat) (rows : List (List AV)) (h : off + len ≤ rows.length) : fzB (.flat wd rows) off len = .ps ((rows.drop off).take len) := by simp [fzB, h]
@[go_sem] theorem fzS_one : fzS [x] σ = σ.put x .dead := by
  simp only [fzS, St.put]
  congr 1
  funext k
  simp
end
end

/-- A list of whole numbers, as data. -/
def ints (l : List Int) : AV := .ps (l.map fun n => [.lit (.int .i64 n)])

end Go.Proofs.Qqz
