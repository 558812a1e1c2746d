/- Code of a Go function, walked abstractly: rules for regions, branches, blocks, loops and calls. -/
import Derived.Test.YtanoekhdoelkbaaGreatCoreH
import Derived.Tactics
set_option linter.unusedSimpArgs false
set_option linter.unusedVariables false
namespace Go.Proofs.Qqz
open Go

def partsE (e : Env) (ps : List (Nat × Operand)) : List (Nat × AV) := ps.map fun p => (p.1, evA e p.2)

def builtinA (P : Program) (b : Builtin) (ts : List TypeId) (xs : List AV) (e : Env) (σ : St) (K : KT) : Prop :=
  match b, ts, xs with
  | .len, [t], [x] => lenA P t x e σ K
  | .append, [t, t2], [x, y] => appendA P t t2 x y e σ K
  | .min, _, [x, y] => minA x y e σ K
  | .max, _, [x, y] => maxA x y e σ K
  | _, _, _ => False

/-- The nil slice reads as no rows. -/
def nlV : Nat → AV → AV
  | 0, x => x
  | k + 1, x =>
    match x with
    | .lit (.slice none 0 0) => .ps []
    | .agg l => .agg (l.map (nlV k))
    | .tup l => .tup (l.map (nlV k))
    | x => x

/-- A call of a function value. -/
def callV (P : Program) (f : AV) (args : List AV) (e : Env) (σ : St) (K : KT) : Prop :=
  match f with
  | .clo g caps => ACall P g ((args ++ caps).map (nlV 3)) e σ K
  | _ => False

def callA (P : Program) (c : Call) (e : Env) (σ : St) (K : KT) : Prop :=
  match c.callee with
  | .value f => callV P (evA e f) (c.args.toList.map (evA e)) e σ K
  | .builtin b => builtinA P b c.argTypes.toList (c.args.toList.map (evA e)) e σ K
  | .invoke _ _ => False

def opA (P : Program) (op : Op) (e : Env) (σ : St) (K : KT) : Prop :=
  match op with
  | .move x => K (evA e x) e σ
  | .assign x => K (evA e x) e σ
  | .pick c a b => pickA (evA e c) (evA e a) (evA e b) e σ K
  | .alloc t => allocA P t e σ K
  | .box _ x => boxA (evA e x) e σ K
  | .build t ps => buildA P t (partsE e ps.toList) e σ K
  | .buildSlice t n ps => buildSliceA P t n (partsE e ps.toList) e σ K
  | .load t a => loadA P t (evA e a) e σ K
  | .store t a x => storeA P t (evA e a) (evA e x) e σ K
  | .nilCheck x => nilCheckA (evA e x) e σ K
  | .binOp op t x y _ => binA P op t (evA e x) (evA e y) e σ K
  | .unOp op _ x => unA op (evA e x) e σ K
  | .convert s d x => (P.underlying s).isSome = true ∧ convA P d (evA e x) e σ K
  | .makeFunc fn first caps => makeFuncA fn (first.toList.map (evA e)) (caps.toList.map (evA e)) e σ K
  | .makeSlice t l c => makeA P t (evA e l) (evA e c) e σ K
  | .slice t x lo hi mx => sliceA P t (evA e x) (lo.map (evA e)) (hi.map (evA e)) (mx.map (evA e)) e σ K
  | .fieldAddr t x f => fieldAddrA P t (evA e x) f e σ K
  | .field t x f => fieldA P t (evA e x) f e σ K
  | .indexAddr t x i => indexAddrA P t (evA e x) (evA e i) e σ K
  | .index t x i => indexA P t (evA e x) (evA e i) e σ K
  | .extract x i => extractA (evA e x) i e σ K
  | .call c => callA P c e σ K
  | _ => False

def gsl (ops : Array Oper) (g : Nat) : Option Tmp := (ops[g]?).bind (·.dst)

mutual
def opsA (P : Program) (ops : Array Oper) : List Oper → (Env → St → Prop) → Env → St → Prop
  | [], Q, e, σ => Q e σ
  | o :: rest, Q, e, σ =>
    match o.guard with
    | none => opA P o.op e σ (fun av e' σ' => opsA P ops rest Q (putE e' o.dst av) σ')
    | some (g, want) =>
      match gsl ops g with
      | none => False
      | some d =>
        match e d with
        | .lit (.bool b) => (b = want → opA P o.op e σ (fun av e' σ' => opsA P ops rest Q (putE e' o.dst av) σ')) ∧ (b = (!want) → opsA P ops rest Q (putE e o.dst (.lit undef)) σ)
        | .lit (.tuple _) => opsA P ops rest Q (putE e o.dst (.lit undef)) σ
        | _ => False
end

/-- What follows an operation. -/
def konA (P : Program) (ops : Array Oper) (dst : Option Tmp) (rest : List Oper) (Q : Env → St → Prop) : KT := fun av e σ => opsA P ops rest Q (putE e dst av) σ

def dstB (N : Nat) (ops : Array Oper) : Bool := ops.toList.all fun o => match o.dst with | some d => Nat.blt d N | none => true

def Rel (a : Act) (w : World) (A : Nat → Prop) (ι : Owns) (e : Env) (σ : St) : Prop :=
  a.defers = [] ∧ Real w A ι σ ∧ ∀ i, VR w A ι σ.n (a.tmps.getD i undef) (e i)

section
variable {P : Program} {w : World} {A : Nat → Prop} {ι : Owns} {σ : St} {e : Env} {K : KT} {a : Act}

theorem ev_VR (he : ∀ i, VR w A ι σ.n (a.tmps.getD i undef) (e i)) (x : Operand) : VR w A ι σ.n (a.eval x) (evA e x) := by
  cases x with
  | tmp t => exact he t
  | const v => exact .lit
  | global g => exact .any
  | func f => exact .clo [] [] rfl (by simp)

theorem parts_R (he : ∀ i, VR w A ι σ.n (a.tmps.getD i undef) (e i)) : ∀ ps : List (Nat × Operand), PartsR w A ι σ.n (ps.map fun p => (p.1, a.eval p.2)) (partsE e ps)
  | [] => trivial
  | p :: ps => ⟨rfl, ev_VR he p.2, parts_R he ps⟩

theorem evs_VRs (he : ∀ i, VR w A ι σ.n (a.tmps.getD i undef) (e i)) (xs : List Operand) : VRs w A ι σ.n (xs.map a.eval) (xs.map (evA e)) :=
  ⟨by simp, fun i v b hv hb => by
    rw [List.getElem?_map] at hv hb
    cases hx : xs[i]? with
    | none => simp [hx] at hv
    | some x => simp [hx] at hv hb; subst hv; subst hb; exact ev_VR he x⟩

theorem nlV_VR {n : Nat} : ∀ (k : Nat) (v : Value) (x : AV), VR w A ι n v x → VR w A ι n v (nlV k x)
  | 0, _, _, h => h
  | k + 1, v, x, h => by
    have ih := fun v x => nlV_VR (n := n) k v x
    have el : ∀ (vs : List Value) (l : List AV), (∀ (i : Nat) (v : Value) (a : AV), vs[i]? = some v → l[i]? = some a → VR w A ι n v a) → ∀ (i : Nat) (v : Value) (a : AV), vs[i]? = some v → (l.map (nlV k))[i]? = some a → VR w A ι n v a := by
      intro vs l hel i v a h1 h2
      rw [List.getElem?_map] at h2
      obtain ⟨x, hx, rfl⟩ := Option.map_eq_some_iff.1 h2
      exact ih _ _ (hel i v x h1 hx)
    unfold nlV
    split
    · cases h; exact .psz
    · cases h with
      | agg vs _ hl hel => exact .agg vs _ (by simpa using hl) (el vs _ hel)
    · cases h with
      | tup vs _ hl hel => exact .tup vs _ (by simpa using hl) (el vs _ hel)
    · exact h

theorem nlVs {vs : List Value} {args : List AV} {n : Nat} (h : VRs w A ι n vs args) (k : Nat) : VRs w A ι n vs (args.map (nlV k)) :=
  ⟨by simpa using h.1, fun i v b hv hb => by
    rw [List.getElem?_map] at hb
    obtain ⟨x, hx, rfl⟩ := Option.map_eq_some_iff.1 hb
    exact nlV_VR k v x (h.2 i v x hv hx)⟩

theorem evo_VRo (he : ∀ i, VR w A ι σ.n (a.tmps.getD i undef) (e i)) (x : Option Operand) : VRo w A ι σ.n (x.map a.eval) (x.map (evA e)) := by
  cases x with
  | none => trivial
  | some x => exact ev_VR he x

theorem andThen_assoc {α β γ : Type} (r : Result α) (f : α → World → Result β) (g : β → World → Result γ) : (r.andThen f).andThen g = r.andThen fun x w => (f x w).andThen g := by
  cases r <;> rfl

theorem wp_of_ran {o : Oper} {s : Sem Value} (hex : (execOp a.eval o).run P w = (s.run P w).andThen fun v w' => .ok (.value v) w') (h : Ran P s (fun i => a.tmps.getD i undef) w A ι σ K)
    {next : Act → World → Prop} {Q : Exit → Act → World → Prop} (hn : ∀ v w', Got (fun i => a.tmps.getD i undef) w A ι σ K v w' → next (a.put o.dst v) w') : o.wp P a w next Q := by
  obtain ⟨v, w', h1, h2⟩ := h
  unfold Oper.wp
  rw [hex, h1]
  exact hn v w' h2

theorem minA_sound {τ : Nat → Value} (hr : Real w A ι σ) (he : ∀ i, VR w A ι σ.n (τ i) (e i)) {x y : AV} {vx vy : Value} {ts : Array TypeId} {ty : TypeId} (hx : VR w A ι σ.n vx x) (hy : VR w A ι σ.n vy y) (h : minA x y e σ K) : Ran P (Builtin.min_ ts ty #[vx, vy]) τ w A ι σ K := by
  unfold minA at h
  split at h
  case h_2 => exact h.elim
  cases hx; cases hy
  exact ⟨_, w, by simp [Builtin.min_, Builtin.min2], Got.same hr he .lit h⟩

theorem maxA_sound {τ : Nat → Value} (hr : Real w A ι σ) (he : ∀ i, VR w A ι σ.n (τ i) (e i)) {x y : AV} {vx vy : Value} {ts : Array TypeId} {ty : TypeId} (hx : VR w A ι σ.n vx x) (hy : VR w A ι σ.n vy y) (h : maxA x y e σ K) : Ran P (Builtin.max_ ts ty #[vx, vy]) τ w A ι σ K := by
  unfold maxA at h
  split at h
  case h_2 => exact h.elim
  cases hx; cases hy
  exact ⟨_, w, by simp [Builtin.max_, Builtin.max2], Got.same hr he .lit h⟩

theorem opA_sound (hr : Real w A ι σ) (he : ∀ i, VR w A ι σ.n (a.tmps.getD i undef) (e i)) {o : Oper} (h : opA P o.op e σ K) {next : Act → World → Prop} {Q : Exit → Act → World → Prop}
    (hn : ∀ v w', Got (fun i => a.tmps.getD i undef) w A ι σ K v w' → next (a.put o.dst v) w') : o.wp P a w next Q := by
  have ev := ev_VR he
  obtain ⟨dst, op, type, pos, after, guard⟩ := o
  cases op <;> simp only [opA] at h
  case move x => exact wp_of_ran (s := pure (a.eval x)) (by simp [execOp]) ⟨_, w, rfl, Got.same hr he (ev x) h⟩ hn
  case assign x => exact wp_of_ran (s := pure (a.eval x)) (by simp [execOp]) ⟨_, w, rfl, Got.same hr he (ev x) h⟩ hn
  case pick c x y =>
    unfold pickA at h
    split at h
    case h_2 => exact h.elim
    rename_i t hc
    have hcv := ev c
    rw [hc] at hcv
    generalize hv : a.eval c = v at hcv
    cases hcv
    cases t with
    | true => exact wp_of_ran (s := pure (a.eval x)) (by simp [execOp, hv, asBool]) ⟨_, w, rfl, Got.same hr he (ev x) (h.1 rfl)⟩ hn
    | false => exact wp_of_ran (s := pure (a.eval y)) (by simp [execOp, hv, asBool]) ⟨_, w, rfl, Got.same hr he (ev y) (h.2 rfl)⟩ hn
  case alloc t => exact wp_of_ran (s := Instr.alloc t true (.tuple #[])) (by simp [execOp]) (allocA_sound hr he h) hn
  case box t x => exact wp_of_ran (s := Instr.box t (a.eval x)) (by simp [execOp]) (boxA_sound hr he (ev x) h) hn
  case build t ps => exact wp_of_ran (by simp [execOp]) (buildA_sound (parts := ps.map fun (i, x) => (i, a.eval x)) hr he (by simpa using parts_R he ps.toList) h) hn
  case buildSlice t n ps => exact wp_of_ran (by simp [execOp]) (buildSliceA_sound (parts := ps.map fun (i, x) => (i, a.eval x)) hr he (by simpa using parts_R he ps.toList) h) hn
  case load t x => exact wp_of_ran (by simp [execOp]) (loadA_sound hr he (ev x) h) hn
  case store t x y =>
    obtain ⟨w', h1, h2⟩ := storeA_sound (P := P) hr he (ev x) (ev y) h
    unfold Oper.wp
    simp only [execOp, Sem.run_bind, h1, Result.andThen_ok, Sem.run_pure]
    exact hn _ w' h2
  case nilCheck x =>
    unfold nilCheckA at h
    have hx := ev x
    split at h
    case h_4 => exact h.elim
    all_goals
      rename_i hxa
      rw [hxa] at hx
      generalize hv : a.eval x = v at hx
      refine wp_of_ran (s := pure v) ?_ ⟨v, w, rfl, Got.same hr he hx (by rw [hxa] at h; exact h)⟩ hn
      cases hx <;> simp [execOp, hv]
  case binOp op t x y yt => exact wp_of_ran (by simp [execOp, andThen_assoc]) (binA_sound (ox := x) (oy := y) hr he (ev x) (ev y) h) hn
  case unOp op t x => exact wp_of_ran (by simp [execOp]) (unA_sound hr he (ev x) h) hn
  case convert s d x => exact wp_of_ran (by simp [execOp]) (convA_sound hr he (ev x) h.1 h.2) hn
  case makeFunc fn first caps =>
    unfold makeFuncA at h
    split at h
    case h_2 => exact h.elim
    rename_i f hf
    have hf' : first = #[] := by
      have : first.toList = [] := by simpa using hf
      exact Array.toList_eq_nil_iff.1 this
    subst hf'
    refine wp_of_ran (s := pure (.func (.func f) #[] (caps.map a.eval))) (by simp [execOp, Instr.makeFunc]) ⟨_, w, rfl, Got.same hr he ?_ h⟩ hn
    have := evs_VRs he caps.toList
    have h2 := VR.clo (w := w) (A := A) (ι := ι) (n := σ.n) (f := f) _ _ this.1 this.2
    have e1 : (caps.toList.map a.eval).toArray = caps.map a.eval := Array.ext' (by simp)
    rw [e1] at h2
    exact h2
  case makeSlice t l c => exact wp_of_ran (by simp [execOp]) (makeA_sound hr he (ev l) (ev c) h) hn
  case slice t x lo hi mx => exact wp_of_ran (by simp [execOp]) (sliceA_sound hr he (ev x) (evo_VRo he lo) (evo_VRo he hi) (evo_VRo he mx) h) hn
  case fieldAddr t x f => exact wp_of_ran (by simp [execOp]) (fieldAddrA_sound hr he (ev x) h) hn
  case field t x f => exact wp_of_ran (by simp [execOp]) (fieldA_sound hr he (ev x) h) hn
  case indexAddr t x i => exact wp_of_ran (by simp [execOp]) (indexAddrA_sound hr he (ev x) (ev i) h) hn
  case index t x i => exact wp_of_ran (by simp [execOp]) (indexA_sound hr he (ev x) (ev i) h) hn
  case extract x i => exact wp_of_ran (by simp [execOp]) (extractA_sound hr he (ev x) h) hn
  case call c =>
    obtain ⟨callee, args, argTypes⟩ := c
    cases callee with
    | invoke => exact h.elim
    | builtin b =>
      simp only [callA] at h
      unfold builtinA at h
      have hargs : ∀ xs : List AV, args.toList.map (evA e) = xs → VRs w A ι σ.n (args.toList.map a.eval) xs := fun xs hx => hx ▸ evs_VRs he args.toList
      have one : ∀ x, args.toList.map (evA e) = [x] → ∃ v, args.map a.eval = #[v] ∧ VR w A ι σ.n v x := fun x hx => by
        have := hargs _ hx
        obtain ⟨l1, l2⟩ := this
        match hq : args.toList.map a.eval, l1 with
        | [v], _ => exact ⟨v, by apply Array.ext'; simpa using hq, l2 0 v x (by rw [hq]; rfl) rfl⟩
      have two : ∀ x y, args.toList.map (evA e) = [x, y] → ∃ v u, args.map a.eval = #[v, u] ∧ VR w A ι σ.n v x ∧ VR w A ι σ.n u y := fun x y hx => by
        have := hargs _ hx
        obtain ⟨l1, l2⟩ := this
        match hq : args.toList.map a.eval, l1 with
        | [v, u], _ => exact ⟨v, u, by apply Array.ext'; simpa using hq, l2 0 v x (by rw [hq]; rfl) rfl, l2 1 u y (by rw [hq]; rfl) rfl⟩
      split at h
      case h_5 => exact h.elim
      · rename_i t x ht hx
        obtain ⟨v, hv, hvr⟩ := one x hx
        have ht' : argTypes = #[t] := Array.ext' (by simpa using ht)
        subst ht'
        exact wp_of_ran (by simp [execOp, resolve, invoke, builtin, hv]) (lenA_sound (ty := type) hr he hvr h) hn
      · rename_i t t2 x y ht hx
        obtain ⟨v, u, hv, hvr, hur⟩ := two x y hx
        have ht' : argTypes = #[t, t2] := Array.ext' (by simpa using ht)
        subst ht'
        exact wp_of_ran (by simp [execOp, resolve, invoke, builtin, hv]) (appendA_sound (ty := type) hr he hvr hur h) hn
      · rename_i x y hx
        obtain ⟨v, u, hv, hvr, hur⟩ := two x y hx
        exact wp_of_ran (by simp [execOp, resolve, invoke, builtin, hv]) (minA_sound (ts := argTypes) (ty := type) hr he hvr hur h) hn
      · rename_i x y hx
        obtain ⟨v, u, hv, hvr, hur⟩ := two x y hx
        exact wp_of_ran (by simp [execOp, resolve, invoke, builtin, hv]) (maxA_sound (ts := argTypes) (ty := type) hr he hvr hur h) hn
    | value f =>
      simp only [callA, callV] at h
      split at h
      case h_2 => exact h.elim
      rename_i g caps hf
      have hfv := ev f
      rw [hf] at hfv
      generalize hv : a.eval f = v at hfv
      cases hfv with
      | clo vs l hl hel =>
        obtain ⟨⟨fn, h1, h2, h3⟩, hcall⟩ := h
        have hargs := evs_VRs he args.toList
        have hcs := hcall w A ι (args.toList.map a.eval ++ vs) hr (nlVs (args := args.toList.map (evA e) ++ caps) ⟨by simp [hl], fun i v b hv hb => by
          rw [List.getElem?_append] at hv hb
          simp only [List.length_map] at hv hb
          split at hv
          · rename_i hlt
            rw [if_pos hlt] at hb
            exact hargs.2 i v b hv hb
          · rename_i hlt
            rw [if_neg hlt] at hb
            exact hel _ v b hv hb⟩ 3)
        have hb : fn.body ≠ none := by cases hb : fn.body <;> simp_all
        have h3' : fn.name ≠ "runtime.NumGoroutine" := by simpa using h3
        have hrun : (execOp a.eval ⟨dst, .call ⟨.value f, args, argTypes⟩, type, pos, after, guard⟩).run P w = .ok (.enter g (args.toList.map a.eval ++ vs).toArray) w := by
          have e1 : (args.toList.map a.eval ++ vs).toArray = args.map a.eval ++ vs.toArray := by
            apply Array.ext'; simp
          rw [e1]
          simp [execOp, resolve, Deferred.ofValue, hv, invoke, callFunc, h1, h3', hb]
        unfold Oper.wp
        rw [hrun]
        simp only [Oper.upon_enter]
        refine hcs.mono fun en w' ⟨v, hen, A', ι', σ', av, g1, g2, g3, g4⟩ => ?_
        subst hen
        exact hn v w' ⟨A', ι', σ', e, av, g1, g2, fun i => (he i).ext hr g2, g3, g4⟩
  all_goals exact h.elim

theorem put_size (a : Act) (d : Option Tmp) (v : Value) : (a.put d v).tmps.size = a.tmps.size := by
  cases d <;> simp [Act.put]

theorem put_defers (a : Act) (d : Option Tmp) (v : Value) : (a.put d v).defers = a.defers := by
  cases d <;> rfl

/-- A value is put into its slot. -/
theorem Rel.put (h : Rel a w A ι e σ) {d : Option Tmp} (hd : ∀ i, d = some i → i < a.tmps.size) {v : Value} {av : AV} (hv : VR w A ι σ.n v av) : Rel (a.put d v) w A ι (putE e d av) σ := by
  refine ⟨by rw [put_defers]; exact h.1, h.2.1, fun i => ?_⟩
  cases d with
  | none => exact h.2.2 i
  | some d =>
    have hlt := hd d rfl
    simp only [Act.put, putE, upd]
    by_cases hi : i = d
    · subst hi
      rw [if_pos rfl]
      have : (a.tmps.setIfInBounds i v).getD i undef = v := by simp [Array.getD, hlt]
      rw [this]; exact hv
    · rw [if_neg hi]
      have : (a.tmps.setIfInBounds d v).getD i undef = a.tmps.getD i undef := by
        simp only [Array.getD_eq_getD_getElem?, Array.getElem?_setIfInBounds_ne (Ne.symm hi)]
      rw [this]; exact h.2.2 i

theorem Got.rel (h : Rel a w A ι e σ) {v : Value} {w' : World} (hg : Got (fun i => a.tmps.getD i undef) w A ι σ K v w') {d : Option Tmp} (hd : ∀ i, d = some i → i < a.tmps.size) :
    ∃ A' ι' σ' e' av, Rel (a.put d v) w' A' ι' (putE e' d av) σ' ∧ Ext w A ι σ w' A' ι' σ' ∧ K av e' σ' := by
  obtain ⟨A', ι', σ', e', av, h1, h2, h3, h4, h5⟩ := hg
  exact ⟨A', ι', σ', e', av, Rel.put ⟨h.1, h1, h3⟩ hd h4, h2, h5⟩

/-- What a rule's post says of a concrete state. -/
def Post (N : Nat) (w : World) (A : Nat → Prop) (ι : Owns) (σ : St) (Q : Env → St → Prop) (a' : Act) (w' : World) : Prop :=
  ∃ e' σ' A' ι', a'.tmps.size = N ∧ Rel a' w' A' ι' e' σ' ∧ Ext w A ι σ w' A' ι' σ' ∧ Q e' σ'

theorem Post.trans {N w A ι σ w1 A1 ι1 σ1 Q a' w'} (h : Ext w A ι σ w1 A1 ι1 σ1) (hp : Post N w1 A1 ι1 σ1 Q a' w') : Post N w A ι σ Q a' w' := by
  obtain ⟨e', σ', A', ι', h1, h2, h3, h4⟩ := hp
  exact ⟨e', σ', A', ι', h1, h2, h.trans h3, h4⟩

theorem dstB_spec {N : Nat} {ops : Array Oper} (h : dstB N ops = true) {o : Oper} (ho : o ∈ ops.toList) : ∀ i, o.dst = some i → i < N := by
  intro i hi
  have := (List.all_eq_true.1 h) o ho
  rw [hi] at this
  simpa using this

theorem opsA_sound {N : Nat} {ops : Array Oper} (hd : dstB N ops = true) {Qw : Exit → Act → World → Prop} {Q : Env → St → Prop} {w0 : World} {A0 : Nat → Prop} {ι0 : Owns} {σ0 : St} (hQ : ∀ a w, Post N w0 A0 ι0 σ0 Q a w → Qw .normal a w) :
    ∀ (l : List Oper) (a : Act) (w : World) (A : Nat → Prop) (ι : Owns) (e : Env) (σ : St), (∀ o ∈ l, o ∈ ops.toList) → a.tmps.size = N → Rel a w A ι e σ → Ext w0 A0 ι0 σ0 w A ι σ → opsA P ops l Q e σ → wpList P ops Qw l a w
  | [], a, w, A, ι, e, σ, _, hN, hr, hx, h => by
    simp only [opsA] at h
    exact hQ a w ⟨e, σ, A, ι, hN, hr, hx, h⟩
  | o :: l, a, w, A, ι, e, σ, hl, hN, hr, hx, h => by
    have hdo : ∀ i, o.dst = some i → i < a.tmps.size := fun i hi => by rw [hN]; exact dstB_spec hd (hl o (by simp)) i hi
    have go : opA P o.op e σ (fun av e' σ' => opsA P ops l Q (putE e' o.dst av) σ') → o.wp P a w (wpList P ops Qw l) Qw := fun h =>
      opA_sound hr.2.1 hr.2.2 h fun v w' hg => by
        obtain ⟨A', ι', σ', e', av, h1, h2, h3⟩ := hg.rel hr hdo
        exact opsA_sound hd hQ l _ _ _ _ _ _ (fun o ho => hl o (by simp [ho])) (by rw [put_size]; exact hN) h1 (hx.trans h2) h3
    have skip : opsA P ops l Q (putE e o.dst (.lit undef)) σ → wpList P ops Qw l (a.put o.dst undef) w := fun h =>
      opsA_sound hd hQ l _ _ _ _ _ _ (fun o ho => hl o (by simp [ho])) (by rw [put_size]; exact hN) (hr.put hdo .lit) hx h
    simp only [opsA] at h
    unfold wpList
    cases hg : o.guard with
    | none =>
      rw [hg] at h
      have : Region.wanted o (yielded ops a.tmps) = true := by simp [Region.wanted, hg]
      rw [if_pos this]
      exact .inl (go h)
    | some gw =>
      obtain ⟨g, want⟩ := gw
      rw [hg] at h
      simp only at h
      unfold gsl at h
      cases hs : (ops[g]?).bind (·.dst) with
      | none => simp [hs] at h
      | some d =>
        simp only [hs] at h
        have hvd := hr.2.2 d
        have hwanted : Region.wanted o (yielded ops a.tmps) = ((match a.tmps[d]? with | some (.bool b) => some b | _ => none) == some want) := by
          simp only [Region.wanted, hg, yielded, hs, Option.bind_some]
          rfl
        split at h
        · rename_i b hed
          rw [hed] at hvd
          generalize hv : a.tmps.getD d undef = v at hvd
          cases hvd
          have hget : a.tmps[d]? = some (.bool b) := by
            rw [Array.getD_eq_getD_getElem?] at hv
            cases hq : a.tmps[d]? with
            | none => rw [hq] at hv; simp [undef] at hv
            | some u => rw [hq] at hv; simp at hv; rw [hv]
          rw [hwanted, hget]
          by_cases hb : b = want
          · subst hb
            rw [if_pos (by simp)]
            exact .inl (go (h.1 rfl))
          · rw [if_neg (by simpa using hb)]
            exact skip (h.2 (by cases b <;> cases want <;> simp_all))
        · rename_i xs hed
          rw [hed] at hvd
          generalize hv : a.tmps.getD d undef = v at hvd
          cases hvd
          have hnone : (match a.tmps[d]? with | some (.bool b) => some b | _ => none) = none := by
            rw [Array.getD_eq_getD_getElem?] at hv
            cases hq : a.tmps[d]? with
            | none => rfl
            | some u => rw [hq] at hv; simp at hv; rw [hv]
          rw [hwanted, hnone]
          rw [if_neg (by simp)]
          exact skip h
        · exact h.elim

def Sat (P : Program) (N : Nat) (c : Code) (Q : Exit → Env → St → Prop) (e : Env) (σ : St) : Prop :=
  ∀ (a : Act) (w : World) (A : Nat → Prop) (ι : Owns), a.tmps.size = N → Rel a w A ι e σ → c.wp P (fun x a' w' => Post N w A ι σ (Q x) a' w') a w

/-- What stands behind a piece of code. -/
def thenQ (K : Env → St → Prop) (Q : Exit → Env → St → Prop) : Exit → Env → St → Prop
  | .normal => K
  | x => Q x

def blockQ (id : Nat) (Q : Exit → Env → St → Prop) : Exit → Env → St → Prop
  | .exit j => if j = id then Q .normal else Q (.exit j)
  | x => Q x

def condA (P : Program) (N : Nat) (v : AV) (x y : Code) (Q : Exit → Env → St → Prop) (e : Env) (σ : St) : Prop :=
  match v with
  | .lit (.bool t) => (t = true → Sat P N x Q e σ) ∧ (t = false → Sat P N y Q e σ)
  | _ => False

variable {N : Nat} {Q : Exit → Env → St → Prop} {x y c : Code}

theorem Post.self {Q : Env → St → Prop} (hN : a.tmps.size = N) (hr : Rel a w A ι e σ) (h : Q e σ) : Post N w A ι σ Q a w := ⟨e, σ, A, ι, hN, hr, Ext.refl _ _ _ _, h⟩

theorem Sat.skip (h : Q .normal e σ) : Sat P N .skip Q e σ := fun _ _ _ _ hN hr => wp_skip (Post.self hN hr h)
theorem Sat.exit {id : Nat} (h : Q (.exit id) e σ) : Sat P N (.exit id) Q e σ := fun _ _ _ _ hN hr => wp_exit (Post.self hN hr h)
theorem Sat.ret (h : Q .ret e σ) : Sat P N .ret Q e σ := fun _ _ _ _ hN hr => wp_ret (Post.self hN hr h)

theorem Sat.seq (h : Sat P N x (thenQ (Sat P N y Q) Q) e σ) : Sat P N (.seq x y) Q e σ := fun a w A ι hN hr =>
  wp_seq (wp_mono (h a w A ι hN hr) fun x a' w' hp => by
    cases x with
    | normal =>
      obtain ⟨e', σ', A', ι', h1, h2, h3, h4⟩ := hp
      exact wp_mono (h4 a' w' A' ι' h1 h2) fun x a2 w2 hp2 => hp2.trans h3
    | _ => exact hp)

theorem Sat.cond {v : Operand} (h : condA P N (evA e v) x y Q e σ) : Sat P N (.cond v x y) Q e σ := fun a w A ι hN hr => by
  unfold condA at h
  split at h
  case h_2 => exact h.elim
  rename_i t hv
  have hev := ev_VR hr.2.2 v
  rw [hv] at hev
  generalize hq : a.eval v = u at hev
  cases hev
  cases t with
  | true => exact wp_cond hq (h.1 rfl a w A ι hN hr)
  | false => exact wp_cond hq (h.2 rfl a w A ι hN hr)

theorem Sat.block {id : Nat} (h : Sat P N c (blockQ id Q) e σ) : Sat P N (.block id c) Q e σ := fun a w A ι hN hr =>
  wp_block (wp_mono (h a w A ι hN hr) fun x a' w' hp => by
    cases x with
    | exit j =>
      simp only [Exit.inBlock]
      by_cases hj : j = id
      · rw [if_pos hj]; simpa [blockQ, hj] using hp
      · rw [if_neg hj]; simpa [blockQ, hj] using hp
    | _ => exact hp)

theorem Sat.region {id : Nat} {ops : Array Oper} (hd : dstB N ops = true) (h : opsA P ops ops.toList (Q .normal) e σ) : Sat P N (.region id ops false) Q e σ := fun a w A ι hN hr =>
  wp_region_list (opsA_sound hd (fun _ _ h => h) ops.toList a w A ι e σ (fun _ h => h) hN hr (Ext.refl _ _ _ _) h)

theorem Sat.mono {Q' : Exit → Env → St → Prop} (h : Sat P N c Q e σ) (hq : ∀ x e σ, Q x e σ → Q' x e σ) : Sat P N c Q' e σ := fun a w A ι hN hr =>
  wp_mono (h a w A ι hN hr) fun x _ _ ⟨e', σ', A', ι', h1, h2, h3, h4⟩ => ⟨e', σ', A', ι', h1, h2, h3, hq x e' σ' h4⟩

/-- What must hold behind a round: the loop's relation, at something smaller; or what the way out asks. -/
def loopQ {T : Type} (I : T → Env → St → Prop) (μ : T → Nat) (t : T) (Q : Exit → Env → St → Prop) : Exit → Env → St → Prop
  | .normal => fun e σ => ∃ t', μ t' < μ t ∧ I t' e σ
  | x => Q x

theorem Sat.loop {T : Type} (I : T → Env → St → Prop) (μ : T → Nat) (t : T) (h0 : I t e σ) (round : ∀ t e σ, I t e σ → Sat P N c (loopQ I μ t Q) e σ) : Sat P N (.loop c) Q e σ := fun a w A ι hN hr => by
  intro b k cs
  have key : ∀ n t e1 σ1 a1 w1 A1 ι1, μ t = n → I t e1 σ1 → a1.tmps.size = N → Rel a1 w1 A1 ι1 e1 σ1 → Ext w A ι σ w1 A1 ι1 σ1 →
      ∃ x a' w', Post N w A ι σ (Q x) a' w' ∧ Arrives P (lone (b.at a1 (.code c :: .inLoop c :: k)) cs w1) b k cs x a' w' := by
    intro n
    induction n using Nat.strongRecOn with
    | _ n ih =>
      intro t e1 σ1 a1 w1 A1 ι1 hn hI hN1 hr1 hx1
      obtain ⟨x, a2, w2, hq, harr⟩ := round t e1 σ1 hI a1 w1 A1 ι1 hN1 hr1 b (.inLoop c :: k) cs
      cases x with
      | normal =>
        obtain ⟨e2, σ2, A2, ι2, h1, h2, h3, t', h4, h5⟩ := hq
        obtain ⟨x3, a3, w3, hq3, harr3⟩ := ih (μ t') (hn ▸ h4) t' e2 σ2 a2 w2 A2 ι2 rfl h5 h1 h2 (hx1.trans h3)
        exact ⟨x3, a3, w3, hq3, .of_steps (Steps.trans harr (.one step_inLoop)) harr3⟩
      | exit id => exact ⟨_, a2, w2, hq.trans hx1, .pass (x := .inLoop c) rfl (fun _ _ => .inl (by simp)) harr⟩
      | goto l => exact ⟨_, a2, w2, hq.trans hx1, .pass (x := .inLoop c) rfl (fun _ _ => .inl (by simp)) harr⟩
      | ret => exact ⟨_, a2, w2, hq.trans hx1, .pass (x := .inLoop c) rfl (fun _ _ => .inl (by simp)) harr⟩
      | panic ch => exact ⟨_, a2, w2, hq.trans hx1, .pass (x := .inLoop c) rfl (fun _ _ => .inl (by simp)) harr⟩
      | outgrown => exact ⟨_, a2, w2, hq.trans hx1, .pass (x := .inLoop c) rfl (fun _ _ => .inl (by simp)) harr⟩
  obtain ⟨x, a', w', hq, harr⟩ := key _ t e σ a w A ι rfl h0 hN hr (Ext.refl _ _ _ _)
  exact ⟨x, a', w', hq, .of_steps (.one step_loop) harr⟩

/-- The results of a function, out of its slots. -/
def resA (P : Program) : List ResultVar → Env → St → (List AV → Prop) → Prop
  | [], _, _, K => K []
  | .tmp t :: rest, e, σ, K => resA P rest e σ fun l => K (e t :: l)
  | .cell p t :: rest, e, σ, K => loadA P t (e p) e σ fun av _ _ => resA P rest e σ fun l => K (av :: l)

def oneA (K : AV → Prop) : List AV → Prop
  | [x] => K x
  | l => K (.tup l)

/-- What a function's post asks when it returns. -/
def retQ (P : Program) (rs : List ResultVar) (K : AV → St → Prop) : Exit → Env → St → Prop
  | .normal => fun e σ => resA P rs e σ (oneA fun v => K v σ)
  | .ret => fun e σ => resA P rs e σ (oneA fun v => K v σ)
  | _ => fun _ _ => False

end
end Go.Proofs.Qqz
