/- The walk through a piece of code, as a condition that unfolds with the code's text. -/
import Derived.Test.YtanoekhdoelkbaaGreatFz
set_option linter.unusedSimpArgs false
set_option linter.unusedVariables false
namespace Go.Proofs.Qqz
open Go

/-- Every slot that the code fills exists. -/
def dstC (N : Nat) : Code → Bool
  | .region _ ops _ => dstB N ops
  | .seq x y => dstC N x && dstC N y
  | .cond _ x y => dstC N x && dstC N y
  | .block _ x => dstC N x
  | .loop x => dstC N x
  | _ => true

/-- Code walked along its text; loops and drawn regions stay as they are. -/
def W (P : Program) (N : Nat) : Code → (Exit → Env → St → Prop) → Env → St → Prop
  | .skip, Q => Q .normal
  | .exit i, Q => Q (.exit i)
  | .ret, Q => Q .ret
  | .seq x y, Q => W P N x (thenQ (W P N y Q) Q)
  | .cond v x y, Q => fun e σ =>
    match evA e v with
    | .lit (.bool t) => (t = true → W P N x Q e σ) ∧ (t = false → W P N y Q e σ)
    | _ => False
  | .block i x, Q => W P N x (blockQ i Q)
  | .region _ ops false, Q => opsF P ops ops.toList (Q .normal)
  | c, Q => Sat P N c Q

theorem W.sat {P : Program} {N : Nat} : ∀ (c : Code) (Q : Exit → Env → St → Prop) (e : Env) (σ : St), dstC N c = true → W P N c Q e σ → Sat P N c Q e σ
  | .skip, Q, e, σ, _, h => Sat.skip h
  | .exit i, Q, e, σ, _, h => Sat.exit h
  | .ret, Q, e, σ, _, h => Sat.ret h
  | .seq x y, Q, e, σ, hd, h => by
    simp only [dstC, Bool.and_eq_true] at hd
    refine Sat.seq (Sat.mono (W.sat x _ e σ hd.1 h) fun x e σ hq => ?_)
    cases x with
    | normal => exact W.sat y Q e σ hd.2 hq
    | _ => exact hq
  | .cond v x y, Q, e, σ, hd, h => by
    simp only [dstC, Bool.and_eq_true] at hd
    refine Sat.cond ?_
    simp only [W] at h
    unfold condA
    split at h
    · rename_i t hv
      rw [hv]
      exact ⟨fun ht => W.sat x Q e σ hd.1 (h.1 ht), fun ht => W.sat y Q e σ hd.2 (h.2 ht)⟩
    · exact h.elim
  | .block i x, Q, e, σ, hd, h => Sat.block (W.sat x _ e σ hd h)
  | .region id ops false, Q, e, σ, hd, h => Sat.regionF hd h
  | .region id ops true, Q, e, σ, hd, h => h
  | .loop c, Q, e, σ, hd, h => h
  | .scope _, Q, e, σ, hd, h => h
  | .rangeFunc _ _ _ _, Q, e, σ, hd, h => h
  | .label _, Q, e, σ, hd, h => h
  | .goto _, Q, e, σ, hd, h => h
  | .refuse _, Q, e, σ, hd, h => h

section
variable {P : Program} {w : World} {A : Nat → Prop} {ι : Owns} {σ : St} {e : Env} {K : KT} {a : Act} {N : Nat} {Q : Exit → Env → St → Prop} {c : Code}

theorem Sat.loopW {T : Type} (I : T → Env → St → Prop) (μ : T → Nat) (t : T) (hd : dstC N c = true) (h0 : I t e σ) (round : ∀ t e σ, I t e σ → W P N c (loopQ I μ t Q) e σ) : Sat P N (.loop c) Q e σ :=
  Sat.loop I μ t h0 fun t e σ h => W.sat c _ e σ hd (round t e σ h)

end

/-- How deep what is handed back is looked into. -/
inductive Fu where
  | z
  | s (u : Fu)
def Fu.n : Fu → Nat
  | .z => 0
  | .s u => u.n + 1
def frzU (m : Nat) (σ : St) (u : Fu) (top : Bool) (x : AV) : AV := frz m σ u.n top x
def Fu.five : Fu := .s (.s (.s (.s (.s (.s .z)))))

section
variable {P : Program} {w : World} {A : Nat → Prop} {ι : Owns} {σ : St} {e : Env} {K : KT} {a : Act} {N : Nat} {Q : Exit → Env → St → Prop} {c : Code}

/-- A function that hands back data: its contract, from the walk of its body. -/
theorem ACall.pureW {f : FuncId} {fn : Func} {args : List AV} {rs : List ResultVar} (hf : P.funcs[f]? = some fn) (hb : fn.body = some c) (hN : fn.ntmps = N) (hrs : fn.results = rs.toArray) (hn : (fn.name == "runtime.NumGoroutine") = false) (hargs : Nat.ble args.length N = true) (hd : dstC N c = true)
    (h : W P N c (retQ P rs fun v σ' => Old σ σ' ∧ K (nlV 3 (frzU σ.n σ' (.s (.s (.s (.s (.s (.s .z)))))) true v)) e σ) (initE args) σ) : ACall P f args e σ K :=
  ACall.pureK 6 hf hb hN hrs hn hargs (W.sat _ _ _ _ hd h)

theorem ACall.eq_args {f : FuncId} {l l' : List AV} (hl : l = l') (h : ACall P f l' e σ K) : ACall P f l e σ K := hl ▸ h

/-- What the call made counts as data from here on. -/
theorem ACall.close {f : FuncId} {args : List AV} (h : ACall P f args e σ (fun v _ σ' => Old σ σ' ∧ K (nlV 3 (frzU σ.n σ' (.s (.s (.s (.s (.s (.s .z)))))) true v)) e σ)) : ACall P f args e σ K := by
  refine ⟨h.1, fun w A ι vs hr hvs => (h.2 w A ι vs hr hvs).mono ?_⟩
  rintro en w' ⟨v, h1, A', ι', σ', av, g1, g2, g4, ho, hK⟩
  obtain ⟨r1, r2⟩ := hr.leave g1 g2 ho
  exact ⟨v, h1, _, ι', σ, _, r1, r2, nlV_VR 3 _ _ (by simpa [frzU, Fu.n] using frz_VR g1 ho.1 6 true v av g4), hK⟩

theorem ACall.bareW {f : FuncId} {fn : Func} {args : List AV} {rs : List ResultVar} (hf : P.funcs[f]? = some fn) (hb : fn.body = some c) (hN : fn.ntmps = N) (hrs : fn.results = rs.toArray) (hn : (fn.name == "runtime.NumGoroutine") = false) (hargs : Nat.ble args.length N = true) (hd : dstC N c = true)
    (h : W P N c (retQ P rs fun v σ' => K v e σ') (initE args) σ) : ACall P f args e σ K :=
  ACall.bare hf hb hN hrs hn hargs (W.sat _ _ _ _ hd h)
end

section
variable (m : Nat) (σ σ' : St) (u : Fu) (top : Bool)
@[go_sem] theorem frzU_lit (v : Value) : frzU m σ (.s u) top (.lit v) = .lit v := rfl
@[go_sem] theorem frzU_ps (l : List (List AV)) : frzU m σ (.s u) top (.ps l) = .ps l := rfl
@[go_sem] theorem frzU_pa (l : List AV) (c : Nat) : frzU m σ (.s u) top (.pa l c) = .pa l c := rfl
@[go_sem] theorem frzU_any : frzU m σ (.s u) top .any = .any := rfl
@[go_sem] theorem frzU_agg (l : List AV) : frzU m σ (.s u) top (.agg l) = .agg (l.map (frzU m σ u top)) := rfl
@[go_sem] theorem frzU_tup (l : List AV) : frzU m σ (.s u) top (.tup l) = .tup (l.map (frzU m σ u top)) := rfl
@[go_sem] theorem frzU_clo (f : Nat) (l : List AV) : frzU m σ (.s u) top (.clo f l) = .clo f (l.map (frzU m σ u top)) := rfl
def frzOs (m : Nat) (σ : St) (u : Fu) (B : Blk) (off len : Nat) : AV :=
  match B with
  | .flat _ rows => if off + len ≤ rows.length then .ps ((rows.drop off).take len) else .any
  | .deep _ rows => if off + len ≤ rows.length then .ps (((rows.drop off).take len).map fun row => row.map (frzU m σ u false)) else .any
  | .dead => .any
def frzPt (m : Nat) (σ : St) (u : Fu) (B : Blk) (r c : Nat) : AV :=
  match B with
  | .flat _ rows => if r < rows.length then .pa (rows.getD r []) c else .any
  | .deep _ rows => if r < rows.length then .pa ((rows.getD r []).map (frzU m σ u false)) c else .any
  | .dead => .any
@[go_sem] theorem frzU_os (id off len : Nat) (h : m ≤ id) : frzU m σ (.s u) top (.os id off len) = frzOs m σ u (σ.h id) off len := by
  unfold frzU frzOs
  simp only [Fu.n, frz]
  rw [if_neg (by omega)]
  cases σ.h id <;> rfl
@[go_sem] theorem frzU_os_old (id off len : Nat) (h : id < m) : frzU m σ (.s u) true (.os id off len) = .os id off len := by
  unfold frzU
  simp only [Fu.n, frz]
  rw [if_pos h]; simp
@[go_sem] theorem frzU_ptr (id r c : Nat) (h : m ≤ id) : frzU m σ (.s u) top (.ptr id r c) = frzPt m σ u (σ.h id) r c := by
  unfold frzU frzPt
  simp only [Fu.n, frz]
  rw [if_neg (by omega)]
  cases σ.h id <;> rfl
@[go_sem] theorem frzU_ptr_old (id r c : Nat) (h : id < m) : frzU m σ (.s u) true (.ptr id r c) = .ptr id r c := by
  unfold frzU
  simp only [Fu.n, frz]
  rw [if_pos h]; simp
@[go_sem] theorem frzOs_flat (wd off len : Nat) (rows : List (List AV)) (h : off + len ≤ rows.length) : frzOs m σ u (.flat wd rows) off len = .ps ((rows.drop off).take len) := by simp [frzOs, h]
@[go_sem] theorem frzOs_deep (wd off len : Nat) (rows : List (List AV)) (h : off + len ≤ rows.length) : frzOs m σ u (.deep wd rows) off len = .ps (((rows.drop off).take len).map fun row => row.map (frzU m σ u false)) := by simp [frzOs, h]
@[go_sem] theorem frzPt_flat (wd r c : Nat) (rows : List (List AV)) (h : r < rows.length) : frzPt m σ u (.flat wd rows) r c = .pa (rows.getD r []) c := by simp [frzPt, h]
@[go_sem] theorem frzPt_deep (wd r c : Nat) (rows : List (List AV)) (h : r < rows.length) : frzPt m σ u (.deep wd rows) r c = .pa ((rows.getD r []).map (frzU m σ u false)) c := by simp [frzPt, h]
@[go_sem] theorem Old_self : Old σ σ = True := eq_true (Old.refl σ)
@[go_sem] theorem Old_new (B : Blk) (h : σ.n ≤ σ'.n) : Old σ (σ'.new B) = Old σ σ' := by
  apply propext
  constructor
  · intro hh
    refine ⟨h, fun k hk => ?_⟩
    have := hh.2 k hk
    simp only [St.new] at this
    rwa [if_neg (by omega)] at this
  · intro hh; exact hh.new B
@[go_sem] theorem Old_put (id : Nat) (B : Blk) (h : σ.n ≤ id) : Old σ (σ'.put id B) = Old σ σ' := by
  apply propext
  constructor
  · intro hh
    refine ⟨hh.1, fun k hk => ?_⟩
    have := hh.2 k hk
    simp only [St.put] at this
    rwa [if_neg (by omega)] at this
  · intro hh; exact hh.put h B
end

section
variable (P : Program) (N : Nat) (Q : Exit → Env → St → Prop) (e : Env) (σ : St)
def condW (P : Program) (N : Nat) (v : AV) (x y : Code) (Q : Exit → Env → St → Prop) (e : Env) (σ : St) : Prop :=
  match v with
  | .lit (.bool t) => (t = true → W P N x Q e σ) ∧ (t = false → W P N y Q e σ)
  | _ => False
@[go_sem ↓] theorem W_skip : W P N .skip Q e σ = Q .normal e σ := rfl
@[go_sem ↓] theorem W_exit (i : Nat) : W P N (.exit i) Q e σ = Q (.exit i) e σ := rfl
@[go_sem ↓] theorem W_ret : W P N .ret Q e σ = Q .ret e σ := rfl
@[go_sem ↓] theorem W_seq (x y : Code) : W P N (.seq x y) Q e σ = W P N x (thenQ (W P N y Q) Q) e σ := rfl
@[go_sem ↓] theorem W_cond (v : Operand) (x y : Code) : W P N (.cond v x y) Q e σ = condW P N (evA e v) x y Q e σ := rfl
@[go_sem ↓] theorem W_block (i : Nat) (x : Code) : W P N (.block i x) Q e σ = W P N x (blockQ i Q) e σ := rfl
@[go_sem ↓] theorem W_region (id : Nat) (l : List Oper) : W P N (.region id ⟨l⟩ false) Q e σ = opsF P ⟨l⟩ l (Q .normal) e σ := rfl
@[go_sem ↓] theorem W_draw (id : Nat) (ops : Array Oper) : W P N (.region id ops true) Q e σ = Sat P N (.region id ops true) Q e σ := rfl
@[go_sem ↓] theorem W_loop (c : Code) : W P N (.loop c) Q e σ = Sat P N (.loop c) Q e σ := rfl
@[go_sem] theorem condW_t (x y : Code) : condW P N (.lit (.bool true)) x y Q e σ = W P N x Q e σ := by simp [condW]
@[go_sem] theorem condW_f (x y : Code) : condW P N (.lit (.bool false)) x y Q e σ = W P N y Q e σ := by simp [condW]
theorem W_id (c : Code) : W P N c Q e σ = W P N c Q e σ := rfl
theorem condW_id (v v' : AV) (x y : Code) (h : v = v') : condW P N v x y Q e σ = condW P N v' x y Q e σ := by rw [h]
attribute [congr] W_id condW_id
end
end Go.Proofs.Qqz
