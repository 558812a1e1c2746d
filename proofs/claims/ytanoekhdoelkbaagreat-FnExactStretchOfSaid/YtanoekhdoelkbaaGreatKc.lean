/- Regions whose order of evaluation is left open: a walk in the text's order, and what makes every other order come to the same. -/
import Derived.Test.YtanoekhdoelkbaaGreatKb
set_option linter.unusedSimpArgs false
set_option linter.unusedVariables false
namespace Go.Proofs.Qqz
open Go

theorem opA_own {P : Program} {op : Op} {e : Env} {σ : St} {K : KT} (h : opA P op e σ K) : opA P op e σ (fun v _ s => K v e s) := by
  cases op <;> exact h

theorem opA_back {P : Program} {op : Op} {e : Env} {σ : St} {K : KT} (h : opA P op e σ (fun v _ s => K v e s)) : opA P op e σ K := by
  cases op <;> exact h

theorem opA_own' {P : Program} {op : Op} {e : Env} {σ : St} {R : AV → St → Prop} (h : opA P op e σ (fun v _ s => R v s)) : opA P op e σ (fun v e2 s => e2 = e ∧ R v s) := by
  apply opA_back
  have : (fun (v : AV) (_ : Env) s => e = e ∧ R v s) = fun v _ s => R v s := by
    funext v _ s; simp
  rw [this]
  exact h

/-- One operation with its guard, R of what it gives. -/
def G (P : Program) (ops : Array Oper) (o : Oper) (e : Env) (σ : St) (R : AV → St → Prop) : Prop :=
  match o.guard with
  | none => opA P o.op e σ (fun v _ s => R v s)
  | some (g, want) =>
    match gsl ops g with
    | none => False
    | some d =>
      match e d with
      | .lit (.bool b) => (b = want → opA P o.op e σ (fun v _ s => R v s)) ∧ (b = (!want) → R (.lit undef) σ)
      | .lit (.tuple _) => R (.lit undef) σ
      | _ => False

section
variable {P : Program} {ops : Array Oper} {w : World} {A : Nat → Prop} {ι : Owns} {σ : St} {e e' : Env} {a : Act} {N : Nat}

theorem G_of_opsA {o : Oper} {rest : List Oper} {Q : Env → St → Prop} (h : opsA P ops (o :: rest) Q e σ) : G P ops o e σ fun v s => opsA P ops rest Q (putE e o.dst v) s := by
  simp only [opsA] at h
  unfold G
  split at h
  · rename_i hg; rw [hg]; exact opA_own h
  · rename_i g want hg
    rw [hg]
    simp only
    cases hs : gsl ops g with
    | none => rw [hs] at h; exact h
    | some d =>
      rw [hs] at h
      simp only at h ⊢
      cases hv : e d with
      | lit v =>
        rw [hv] at h
        cases v with
        | bool b => exact ⟨fun hb => opA_own (h.1 hb), h.2⟩
        | tuple xs => exact h
        | _ => exact h.elim
      | _ => rw [hv] at h; exact h.elim

theorem evA_looks {o : Oper} (h : ∀ t ∈ o.looksAt ops, e t = e' t) : ∀ x ∈ o.op.operands, evA e x = evA e' x := by
  intro x hx
  cases x with
  | tmp t => exact h t (List.mem_append_left _ (List.mem_filterMap.2 ⟨.tmp t, by simpa using hx, rfl⟩))
  | _ => rfl

theorem G_env {o : Oper} {R : AV → St → Prop} (h : ∀ t ∈ o.looksAt ops, e t = e' t) (hh : G P ops o e σ R) : G P ops o e' σ R := by
  have hx := evA_looks h
  unfold G at hh ⊢
  cases hg : o.guard with
  | none => rw [hg] at hh; exact opA_env hx hh
  | some gw =>
    obtain ⟨g, want⟩ := gw
    rw [hg] at hh
    simp only at hh ⊢
    cases hs : gsl ops g with
    | none => rw [hs] at hh; exact hh
    | some d =>
      rw [hs] at hh
      simp only at hh ⊢
      have hd : e d = e' d := h d (List.mem_append_right _ (by unfold gsl at hs; simp [hg, hs]))
      rw [← hd]
      cases hv : e d with
      | lit v =>
        rw [hv] at hh
        cases v with
        | bool b => exact ⟨fun hb => opA_env hx (hh.1 hb), hh.2⟩
        | tuple xs => exact hh
        | _ => exact hh.elim
      | _ => rw [hv] at hh; exact hh.elim

/-- One operation of a drawn region, run. -/
theorem wpOp_of_G {i : Nat} {o : Oper} (hi : ops[i]? = some o) (hN : a.tmps.size = N) (hd : ∀ d, o.dst = some d → d < N) (hr : Rel a w A ι e σ) {R : AV → St → Prop} (h : G P ops o e σ R) {Qw : Exit → Act → World → Prop} {K : Act → World → Prop}
    (hn : ∀ v a' w' A' ι' σ', a'.tmps.size = N → Rel a' w' A' ι' (putE e o.dst v) σ' → Ext w A ι σ w' A' ι' σ' → R v σ' → K a' w') : wpOp P ops Qw i K a w := by
  have hdo : ∀ i, o.dst = some i → i < a.tmps.size := fun i hi => by rw [hN]; exact hd i hi
  have go : opA P o.op e σ (fun v _ s => R v s) → o.wp P a w K Qw := fun h =>
    opA_sound hr.2.1 hr.2.2 (K := fun v e2 s => e2 = e ∧ R v s) (opA_own' h) fun v w' hg => by
      obtain ⟨A', ι', σ', e2, av, h1, h2, h3, h4⟩ := hg.rel hr hdo
      subst h3
      exact hn _ _ _ _ _ _ (by rw [put_size]; exact hN) h1 h2 h4
  have skip : R (.lit undef) σ → K (a.put o.dst undef) w := fun h => hn _ _ _ _ _ _ (by rw [put_size]; exact hN) (hr.put hdo .lit) (Ext.refl _ _ _ _) h
  unfold wpOp
  rw [hi]
  simp only
  unfold G at h
  cases hg : o.guard with
  | none =>
    rw [hg] at h
    have : Region.wanted o (yielded ops a.tmps) = true := by simp [Region.wanted, hg]
    rw [if_pos this]
    exact .inl (go h)
  | some gw =>
    obtain ⟨g, want⟩ := gw
    rw [hg] at h
    simp only at h
    unfold gsl at h
    cases hs : (ops[g]?).bind (·.dst) with
    | none => simp [hs] at h
    | some d =>
      simp only [hs] at h
      have hvd := hr.2.2 d
      have hwanted : Region.wanted o (yielded ops a.tmps) = ((match a.tmps[d]? with | some (.bool b) => some b | _ => none) == some want) := by
        simp only [Region.wanted, hg, yielded, hs, Option.bind_some]
        rfl
      split at h
      · rename_i b hed
        rw [hed] at hvd
        generalize hv : a.tmps.getD d undef = v at hvd
        cases hvd
        have hget : a.tmps[d]? = some (.bool b) := by
          rw [Array.getD_eq_getD_getElem?] at hv
          cases hq : a.tmps[d]? with
          | none => rw [hq] at hv; simp [undef] at hv
          | some u => rw [hq] at hv; simp at hv; rw [hv]
        rw [hwanted, hget]
        by_cases hb : b = want
        · subst hb
          rw [if_pos (by simp)]
          exact .inl (go (h.1 rfl))
        · rw [if_neg (by simpa using hb)]
          exact skip (h.2 (by cases b <;> cases want <;> simp_all))
      · rename_i xs hed
        rw [hed] at hvd
        generalize hv : a.tmps.getD d undef = v at hvd
        cases hvd
        have hnone : (match a.tmps[d]? with | some (.bool b) => some b | _ => none) = none := by
          rw [Array.getD_eq_getD_getElem?] at hv
          cases hq : a.tmps[d]? with
          | none => rfl
          | some u => rw [hq] at hv; simp at hv; rw [hv]
        rw [hwanted, hnone]
        rw [if_neg (by simp)]
        exact skip h
      · exact h.elim

/-- Operation o waits for operation j. -/
def dep (o : Oper) (j : Nat) : Bool := o.after.any fun e => e.on == j && Region.binds .any e

theorem dep_iff {o : Oper} {j : Nat} : dep o j = true ↔ ∃ e ∈ o.after, e.on = j ∧ Region.binds .any e = true := by
  unfold dep
  rw [← Array.any_toList, List.any_eq_true]
  simp

/-- All that those of m wait for, among the first k. -/
def anc (ops : Array Oper) : Nat → List Nat → List Nat
  | 0, m => m
  | k + 1, m => anc ops k (if m.contains k then (match ops[k]? with | some o => m ++ (o.after.toList.filter fun e => Region.binds .any e).map (·.on) | none => m) else m)

def indepAt (ops : Array Oper) (i : Nat) : Bool := match ops[i]? with | some o => indepOp o.op | none => false

def chainB (ops : Array Oper) : List Nat → Bool
  | [] => true
  | [_] => true
  | i :: j :: rest => (match ops[j]? with | some o => dep o i | none => false) && chainB ops (j :: rest)

def midB (al late : List Nat) (i : Nat) : Bool := !al.contains i && !late.contains i

/-- The order among the operations of a region is such that the walk in the text's order tells of every other. -/
def okD (N : Nat) (ops : Array Oper) (al late : List Nat) : Bool :=
  dstB N ops &&
  ((List.range ops.size).all fun i => match ops[i]? with
    | none => true
    | some o => (o.after.all fun e => !Region.binds .any e || Nat.blt e.on i) &&
      (List.range ops.size).all fun j => match ops[j]? with
        | none => true
        | some oj => match oj.dst with
          | none => true
          | some d => (i == j || o.dst != some d) &&
            (!(o.looksAt ops).contains d || (dep o j && (!midB al late i || midB al late j)) || (dep oj i && !(late.contains i && midB al late j)))) &&
  (al.all fun i => match ops[i]? with | some o => (o.looksAt ops).isEmpty && o.guard.isNone && !late.contains i | none => false) &&
  (late.all fun i => (ops[i]?).isSome) &&
  (match late with
    | [] => true
    | l0 :: _ => ((List.range ops.size).all fun i => late.contains i || (anc ops (l0 + 1) [l0]).contains i || (indepAt ops i && !al.contains i)) && chainB ops late)

structure OkD (N : Nat) (ops : Array Oper) (al late : List Nat) : Prop where
  dst : dstB N ops = true
  low : ∀ (i : Nat) (o : Oper), ops[i]? = some o → ∀ j, dep o j = true → j < i
  uniq : ∀ (i j : Nat) (o oj : Oper) (d : Tmp), ops[i]? = some o → ops[j]? = some oj → o.dst = some d → oj.dst = some d → i = j
  look : ∀ (i j : Nat) (o oj : Oper) (d : Tmp), ops[i]? = some o → ops[j]? = some oj → oj.dst = some d → d ∈ o.looksAt ops → (dep o j = true ∧ (midB al late i = true → midB al late j = true)) ∨ (dep oj i = true ∧ ¬ (i ∈ late ∧ midB al late j = true))
  alo : ∀ i ∈ al, ∃ o, ops[i]? = some o ∧ o.looksAt ops = [] ∧ o.guard = none ∧ i ∉ late
  lateo : ∀ i ∈ late, ∃ o, ops[i]? = some o
  first : ∀ l0 rest, late = l0 :: rest → ∀ i, i < ops.size → i ∈ late ∨ i ∈ anc ops (l0 + 1) [l0] ∨ (indepAt ops i = true ∧ i ∉ al)
  chain : chainB ops late = true

theorem okD_spec {al late : List Nat} (h : okD N ops al late = true) : OkD N ops al late := by
  simp only [okD, Bool.and_eq_true] at h
  obtain ⟨⟨⟨⟨h1, h2⟩, h3⟩, h4⟩, h5⟩ := h
  rw [List.all_eq_true] at h2 h3 h4
  have H : ∀ (i : Nat) (o : Oper), ops[i]? = some o → (∀ e ∈ o.after, Region.binds .any e = true → e.on < i) ∧ ∀ (j : Nat) (oj : Oper) (d : Tmp), ops[j]? = some oj → oj.dst = some d →
      (i = j ∨ o.dst ≠ some d) ∧ (d ∉ o.looksAt ops ∨ (dep o j = true ∧ (midB al late i = true → midB al late j = true)) ∨ (dep oj i = true ∧ ¬ (i ∈ late ∧ midB al late j = true))) := by
    intro i o ho
    have hlt : i < ops.size := (Array.getElem?_eq_some_iff.1 ho).1
    have := h2 i (List.mem_range.2 hlt)
    simp only [ho, Bool.and_eq_true] at this
    obtain ⟨g1, g2⟩ := this
    refine ⟨fun e he hb => ?_, fun j oj d hj hd => ?_⟩
    · rw [Array.all_eq_true_iff_forall_mem] at g1
      have := g1 e he
      simpa [hb] using this
    · rw [List.all_eq_true] at g2
      have := g2 j (List.mem_range.2 (Array.getElem?_eq_some_iff.1 hj).1)
      simp only [hj, hd, Bool.and_eq_true] at this
      refine ⟨by simpa using this.1, ?_⟩
      have h6 := this.2
      by_cases hc : d ∈ o.looksAt ops
      · refine .inr ?_
        have hc' : (o.looksAt ops).contains d = true := by simpa using hc
        rw [hc'] at h6
        simp only [Bool.not_true, Bool.false_or, Bool.or_eq_true, Bool.and_eq_true] at h6
        rcases h6 with ⟨k1, k2⟩ | ⟨k1, k2⟩
        · refine .inl ⟨k1, fun hm => ?_⟩
          rw [hm] at k2; simpa using k2
        · refine .inr ⟨k1, fun hm => ?_⟩
          have : late.contains i = true := by simpa using hm.1
          rw [this, hm.2] at k2; simp at k2
      · exact .inl hc
  refine ⟨h1, fun i o ho j hj => ?_, fun i j o oj d ho hj hd hdj => ?_, fun i j o oj d ho hj hdj hl => ?_, fun i hi => ?_, fun i hi => ?_, ?_, ?_⟩
  · obtain ⟨e, he, rfl, hb⟩ := dep_iff.1 hj
    exact (H i o ho).1 e he hb
  · rcases ((H i o ho).2 j oj d hj hdj).1 with h | h
    · exact h
    · exact absurd hd h
  · rcases ((H i o ho).2 j oj d hj hdj).2 with h | h
    · exact absurd hl h
    · exact h
  · have := h3 i hi
    cases ho : ops[i]? with
    | none => simp [ho] at this
    | some o =>
      simp only [ho, Bool.and_eq_true] at this
      exact ⟨o, rfl, by simpa using this.1.1, by simpa using this.1.2, by simpa using this.2⟩
  · have := h4 i hi
    exact Option.isSome_iff_exists.1 this
  · rintro l0 rest rfl i hi
    simp only [Bool.and_eq_true] at h5
    have := (List.all_eq_true.1 h5.1) i (List.mem_range.2 hi)
    simp only [Bool.or_eq_true, Bool.and_eq_true] at this
    rcases this with (h | h) | h
    · exact .inl (by simpa using h)
    · exact .inr (.inl (by simpa using h))
    · exact .inr (.inr ⟨h.1, by simpa using h.2⟩)
  · cases late with
    | nil => rfl
    | cons l0 rest =>
      simp only [Bool.and_eq_true] at h5
      exact h5.2

/-- With an operation, all that it waits for is listed. -/
def Closed (ops : Array Oper) (T : Array Bool) : Prop := ∀ (i : Nat) (o : Oper), ops[i]? = some o → T.getD i false = true → ∀ j, dep o j = true → T.getD j false = true

theorem anc_listed {T : Array Bool} (hc : Closed ops T) : ∀ (k : Nat) (m : List Nat), (∀ i ∈ m, T.getD i false = true) → ∀ i ∈ anc ops k m, T.getD i false = true
  | 0, m, h, i, hi => h i hi
  | k + 1, m, h, i, hi => by
    refine anc_listed hc k _ ?_ i hi
    intro j hj
    split at hj
    · rename_i hk
      have hk' : k ∈ m := by simpa using hk
      split at hj
      · rename_i o ho
        rcases List.mem_append.1 hj with h1 | h1
        · exact h j h1
        · obtain ⟨e, he, rfl⟩ := List.mem_map.1 h1
          obtain ⟨h2, h3⟩ := List.mem_filter.1 he
          exact hc k o ho (h k hk') _ (dep_iff.2 ⟨e, by simpa using h2, rfl, h3⟩)
      · exact h j hj
    · exact h j hj

/-! ### The walk in the text's order -/

/-- An operation that changes nothing in any of these states, and gives v in each. -/
def quietA (P : Program) (L : St → Prop) (op : Op) (e : Env) (v : AV) : Prop := ∀ σ, L σ → opA P op e σ (fun u _ s => u = v ∧ s = σ)

def midG (P : Program) (ops : Array Oper) (L : St → Prop) (o : Oper) (e : Env) (K : AV → Prop) : Prop :=
  match o.guard with
  | none => ∃ v, quietA P L o.op e v ∧ K v
  | some (g, want) =>
    match gsl ops g with
    | none => False
    | some d =>
      match e d with
      | .lit (.bool b) => (b = want → ∃ v, quietA P L o.op e v ∧ K v) ∧ (b = (!want) → K (.lit undef))
      | .lit (.tuple _) => K (.lit undef)
      | _ => False

/-- The quiet operations in the text's order. -/
def midA (P : Program) (ops : Array Oper) (al late : List Nat) (L : St → Prop) : Nat → List Oper → (Env → Prop) → Env → Prop
  | _, [], R, e => R e
  | i, o :: rest, R, e =>
    if midB al late i = true then midG P ops L o e fun v => midA P ops al late L (i + 1) rest R (putE e o.dst v) else midA P ops al late L (i + 1) rest R e

/-- The environment ahead of the j-th operation. -/
def envAt (al late : List Nat) : List Oper → List AV → Nat → Env → Nat → Env
  | o :: l, v :: vs, i, e, j + 1 => envAt al late l vs (i + 1) (if midB al late i = true then putE e o.dst v else e) j
  | _, _, _, e, _ => e

theorem midG_val {al late : List Nat} {L : St → Prop} {o : Oper} {K : AV → Prop} (h : midG P ops L o e K) : ∃ v, (∀ σ, L σ → G P ops o e σ (fun u s => u = v ∧ s = σ)) ∧ K v := by
  unfold midG at h
  cases hg : o.guard with
  | none =>
    rw [hg] at h
    obtain ⟨v, h1, h2⟩ := h
    exact ⟨v, fun σ hL => by unfold G; rw [hg]; exact h1 σ hL, h2⟩
  | some gw =>
    obtain ⟨g, want⟩ := gw
    rw [hg] at h
    simp only at h
    cases hs : gsl ops g with
    | none => rw [hs] at h; exact h.elim
    | some d =>
      rw [hs] at h
      simp only at h
      cases hv : e d with
      | lit v =>
        rw [hv] at h
        cases v with
        | bool b =>
          by_cases hb : b = want
          · obtain ⟨v, h1, h2⟩ := h.1 hb
            refine ⟨v, fun σ hL => ?_, h2⟩
            unfold G
            rw [hg]; simp only; rw [hs]; simp only; rw [hv]
            exact ⟨fun _ => h1 σ hL, fun hb' => by subst hb; cases b <;> simp at hb'⟩
          · have hb' : b = (!want) := by cases b <;> cases want <;> simp_all
            refine ⟨.lit undef, fun σ hL => ?_, h.2 hb'⟩
            unfold G
            rw [hg]; simp only; rw [hs]; simp only; rw [hv]
            exact ⟨fun h => absurd h hb, fun _ => by simp⟩
        | tuple xs =>
          refine ⟨.lit undef, fun σ hL => ?_, h⟩
          unfold G
          rw [hg]; simp only; rw [hs]; simp only; rw [hv]
          simp
        | _ => exact h.elim
      | _ => rw [hv] at h; exact h.elim

theorem midA_vals {al late : List Nat} {L : St → Prop} {R : Env → Prop} : ∀ (l : List Oper) (i : Nat) (e : Env), midA P ops al late L i l R e →
    ∃ vs : List AV, vs.length = l.length ∧ (∀ (j : Nat) (o : Oper), l[j]? = some o → midB al late (i + j) = true → ∀ σ, L σ → G P ops o (envAt al late l vs i e j) σ (fun u s => u = vs.getD j .any ∧ s = σ)) ∧ R (envAt al late l vs i e l.length)
  | [], i, e, h => ⟨[], rfl, by simp, h⟩
  | o :: l, i, e, h => by
    simp only [midA] at h
    by_cases hm : midB al late i = true
    · rw [if_pos hm] at h
      obtain ⟨v, h1, h2⟩ := midG_val (al := al) (late := late) h
      obtain ⟨vs, g1, g2, g3⟩ := midA_vals l (i + 1) _ h2
      refine ⟨v :: vs, by simp [g1], fun j o' hj hmj σ hL => ?_, ?_⟩
      · cases j with
        | zero =>
          simp only [List.getElem?_cons_zero, Option.some.injEq] at hj
          subst hj
          exact h1 σ hL
        | succ j =>
          simp only [List.getElem?_cons_succ] at hj
          have := g2 j o' hj (by rw [Nat.add_assoc, Nat.add_comm 1 j]; exact hmj) σ hL
          simp only [envAt, hm, if_true]
          simpa using this
      · simp only [List.length_cons, envAt, hm, if_true]
        exact g3
    · rw [if_neg hm] at h
      obtain ⟨vs, g1, g2, g3⟩ := midA_vals l (i + 1) _ h
      refine ⟨.any :: vs, by simp [g1], fun j o' hj hmj σ hL => ?_, ?_⟩
      · cases j with
        | zero => exact absurd hmj hm
        | succ j =>
          simp only [List.getElem?_cons_succ] at hj
          have := g2 j o' hj (by rw [Nat.add_assoc, Nat.add_comm 1 j]; exact hmj) σ hL
          simp only [envAt, hm, if_false]
          simpa using this
      · simp only [List.length_cons, envAt, hm, if_false]
        exact g3

/-- A slot that none of the quiet operations ahead fills keeps its value. -/
theorem envAt_other {al late : List Nat} {t : Tmp} : ∀ (l : List Oper) (vs : List AV) (i : Nat) (e : Env) (j : Nat),
    (∀ (k : Nat) (o : Oper), k < j → l[k]? = some o → midB al late (i + k) = true → o.dst ≠ some t) → envAt al late l vs i e j t = e t
  | [], vs, i, e, j, _ => by cases j <;> rfl
  | o :: l, [], i, e, j, _ => by cases j <;> rfl
  | o :: l, v :: vs, i, e, 0, _ => rfl
  | o :: l, v :: vs, i, e, j + 1, h => by
    simp only [envAt]
    rw [envAt_other l vs (i + 1) _ j fun k o' hk hl hm => h (k + 1) o' (by omega) (by simpa using hl) (by rw [Nat.add_assoc, Nat.add_comm 1 k] at hm; exact hm)]
    split
    · rename_i hm
      have := h 0 o (by omega) rfl hm
      cases hd : o.dst with
      | none => rfl
      | some d =>
        rw [hd] at this
        simp only [putE, upd]
        rw [if_neg (fun h => this (by rw [h]))]
    · rfl

/-- A slot that one quiet operation ahead fills holds its value. -/
theorem envAt_at {al late : List Nat} {t : Tmp} : ∀ (l : List Oper) (vs : List AV) (i : Nat) (e : Env) (j k : Nat) (o : Oper), vs.length = l.length → k < j → l[k]? = some o → midB al late (i + k) = true → o.dst = some t →
    (∀ (k' : Nat) (o' : Oper), k' ≠ k → l[k']? = some o' → o'.dst ≠ some t) → envAt al late l vs i e j t = vs.getD k .any
  | [], vs, i, e, j, k, o, _, _, hl, _, _, _ => by simp at hl
  | o' :: l, [], i, e, j, k, o, hv, _, _, _, _, _ => by simp at hv
  | o' :: l, v :: vs, i, e, 0, k, o, _, hk, _, _, _, _ => by omega
  | o' :: l, v :: vs, i, e, j + 1, 0, o, hv, _, hl, hm, hd, hu => by
    simp only [List.getElem?_cons_zero, Option.some.injEq] at hl
    subst hl
    simp only [Nat.add_zero] at hm
    simp only [envAt, hm, if_true]
    rw [envAt_other l vs (i + 1) _ j fun k o2 _ hl2 _ => hu (k + 1) o2 (by omega) (by simpa using hl2)]
    simp [hd, putE, upd]
  | o' :: l, v :: vs, i, e, j + 1, k + 1, o, hv, hk, hl, hm, hd, hu => by
    simp only [envAt]
    rw [envAt_at l vs (i + 1) _ j k o (by simpa using hv) (by omega) (by simpa using hl) (by rw [Nat.add_assoc, Nat.add_comm 1 k]; exact hm) hd fun k' o2 hne hl2 => hu (k' + 1) o2 (by omega) (by simpa using hl2)]
    simp

/-- The fresh blocks, made in this order. -/
def AL (ops : Array Oper) (B : Nat → Blk) (mk : Nat → Nat → AV) (p : List Nat) (e : Env) (σ : St) : Env × St :=
  p.foldl (fun x i => (putE x.1 ((ops[i]?).bind (·.dst)) (mk i x.2.n), x.2.new (B i))) (e, σ)

theorem AL_snoc {B : Nat → Blk} {mk : Nat → Nat → AV} {p : List Nat} {i : Nat} : AL ops B mk (p ++ [i]) e σ = (putE (AL ops B mk p e σ).1 ((ops[i]?).bind (·.dst)) (mk i (AL ops B mk p e σ).2.n), (AL ops B mk p e σ).2.new (B i)) := by
  simp [AL, List.foldl_append]

theorem AL_snd {B : Nat → Blk} {mk : Nat → Nat → AV} (p : List Nat) (e e' : Env) (σ : St) : (AL ops B mk p e σ).2 = (AL ops B mk p e' σ).2 := by
  unfold AL
  induction p generalizing e e' σ with
  | nil => rfl
  | cons i p ih => simp only [List.foldl_cons]; exact ih _ _ _

/-! ### Every order -/

/-- What the slots hold, when some operations are still to come. -/
structure Msk (ops : Array Oper) (T : Array Bool) (e0 ef em : Env) : Prop where
  done : ∀ t, (∀ (j : Nat) (o : Oper), ops[j]? = some o → o.dst = some t → T.getD j false = true) → em t = ef t
  todo : ∀ (t : Tmp) (j : Nat) (o : Oper), ops[j]? = some o → o.dst = some t → T.getD j false = false → em t = e0 t

theorem getD_set {T : Array Bool} {i j : Nat} (hi : i < T.size) : (T.setIfInBounds i true).getD j false = if i = j then true else T.getD j false := by
  by_cases h : i = j
  · subst h; simp [hi]
  · rw [if_neg h, getD_set_ne false h]

theorem Msk.step {N : Nat} {al late : List Nat} {T : Array Bool} {e0 ef ef' em : Env} {i : Nat} {o : Oper} {v : AV} (hk : OkD N ops al late) (h : Msk ops T e0 ef em) (ho : ops[i]? = some o) (hT : i < T.size)
    (h1 : ∀ t, o.dst = some t → ef' t = v) (h2 : ∀ t, o.dst ≠ some t → ef' t = ef t) : Msk ops (T.setIfInBounds i true) e0 ef' (putE em o.dst v) := by
  have hput : ∀ t, o.dst ≠ some t → putE em o.dst v t = em t := by
    intro t ht
    cases hd : o.dst with
    | none => rfl
    | some d =>
      rw [hd] at ht
      simp only [putE, upd]
      rw [if_neg (fun h => ht (by rw [h]))]
  refine ⟨fun t ht => ?_, fun t j oj hj hd hu => ?_⟩
  · by_cases hd : o.dst = some t
    · rw [h1 t hd, hd]; simp [putE, upd]
    · rw [h2 t hd, hput t hd]
      refine h.done t fun j oj hj hdj => ?_
      have := ht j oj hj hdj
      rw [getD_set hT] at this
      by_cases hij : i = j
      · subst hij; rw [ho] at hj; cases hj; exact absurd hdj hd
      · rw [if_neg hij] at this; exact this
  · rw [getD_set hT] at hu
    by_cases hij : i = j
    · rw [if_pos hij] at hu; cases hu
    · rw [if_neg hij] at hu
      rw [hput t fun hd' => hij (hk.uniq i j o oj t ho hj hd' hd)]
      exact h.todo t j oj hj hd hu

/-- The data of a walk: what each quiet operation gives, and the late ones. -/
structure Walk (P : Program) (N : Nat) (ops : Array Oper) (al late : List Nat) (B : Nat → Blk) (mk : Nat → Nat → AV) (Q : Env → St → Prop) (e0 : Env) (σ0 : St) (vs : List AV) (eM : Env) : Prop where
  ok : OkD N ops al late
  len : vs.length = ops.toList.length
  mids : ∀ (j : Nat) (o : Oper), ops[j]? = some o → midB al late j = true → ∀ p : List Nat, p.Nodup → (∀ i ∈ p, i ∈ al) → G P ops o (envAt al late ops.toList vs 0 e0 j) (AL ops B mk p e0 σ0).2 (fun u s => u = vs.getD j .any ∧ s = (AL ops B mk p e0 σ0).2)
  hM : eM = envAt al late ops.toList vs 0 e0 ops.toList.length
  news : ∀ i ∈ al, ∀ o, ops[i]? = some o → ∀ (e : Env) (σ : St), opA P o.op e σ (fun v _ s => v = mk i σ.n ∧ s = σ.new (B i))
  fin : ∀ p : List Nat, p.Nodup → (∀ i, i ∈ p ↔ i ∈ al) → opsA P ops (late.filterMap fun i => ops[i]?) Q (AL ops B mk p eM σ0).1 (AL ops B mk p eM σ0).2

/-- How far the fresh blocks and the late operations have come. -/
inductive Ph (P : Program) (ops : Array Oper) (al late : List Nat) (B : Nat → Blk) (mk : Nat → Nat → AV) (Q : Env → St → Prop) (σ0 : St) (eM : Env) (T : Array Bool) (ef : Env) (σ : St) : Prop
  | early (p : List Nat) (hp : p.Nodup) (hal : ∀ i, i ∈ p ↔ i ∈ al ∧ T.getD i false = true) (hl : ∀ i ∈ late, T.getD i false = false) (hs : (ef, σ) = AL ops B mk p eM σ0)
  | lated (l1 l2 : List Nat) (hl : late = l1 ++ l2) (hne : l1 ≠ []) (h1 : ∀ i ∈ l1, T.getD i false = true) (h2 : ∀ i ∈ l2, T.getD i false = false) (hal : ∀ i ∈ al, T.getD i false = true) (h : opsA P ops (l2.filterMap fun i => ops[i]?) Q ef σ)

structure Inv (P : Program) (N : Nat) (ops : Array Oper) (al late : List Nat) (B : Nat → Blk) (mk : Nat → Nat → AV) (Q : Env → St → Prop) (e0 : Env) (σ0 : St) (vs : List AV) (eM : Env) (w0 : World) (A0 : Nat → Prop) (ι0 : Owns) (T : Array Bool) (a : Act) (w : World) (A : Nat → Prop) (ι : Owns) (em ef : Env) (σ : St) : Prop where
  size : T.size = ops.size
  closed : Closed ops T
  hN : a.tmps.size = N
  rel : Rel a w A ι em σ
  ext : Ext w0 A0 ι0 σ0 w A ι σ
  msk : Msk ops T e0 ef em
  ef1 : ∀ (j : Nat) (o : Oper) (t : Tmp), ops[j]? = some o → o.dst = some t → midB al late j = true → ef t = vs.getD j .any
  ef2 : ∀ (j : Nat) (o : Oper) (t : Tmp), ops[j]? = some o → o.dst = some t → midB al late j = false → T.getD j false = false → ef t = e0 t
  ef3 : ∀ t, (∀ (j : Nat) (o : Oper), ops[j]? = some o → o.dst ≠ some t) → ef t = e0 t
  ph : Ph P ops al late B mk Q σ0 eM T ef σ

/-- Before an operation, the slots it looks at hold what they should. -/
theorem Inv.looks {al late : List Nat} {B : Nat → Blk} {mk : Nat → Nat → AV} {Q : Env → St → Prop} {e0 : Env} {σ0 : St} {vs : List AV} {eM : Env} {w0 A0 ι0} {T : Array Bool} {em ef : Env}
    (W : Walk P N ops al late B mk Q e0 σ0 vs eM) (I : Inv P N ops al late B mk Q e0 σ0 vs eM w0 A0 ι0 T a w A ι em ef σ) {i : Nat} {o : Oper} (ho : ops[i]? = some o) (hT : T.getD i false = false) (hr : ∀ j, dep o j = true → T.getD j false = true) (hmid : midB al late i = true ∨ i ∈ late) :
    ∀ t ∈ o.looksAt ops, em t = (if midB al late i = true then envAt al late ops.toList vs 0 e0 i t else ef t) := by
  intro t ht
  have hlow := W.ok.low
  by_cases hex : ∃ (j : Nat) (oj : Oper), ops[j]? = some oj ∧ oj.dst = some t
  · obtain ⟨j, oj, hj, hd⟩ := hex
    have huniq : ∀ (k : Nat) (ok : Oper), ops[k]? = some ok → ok.dst = some t → k = j := fun k ok hk hdk => W.ok.uniq k j ok oj t hk hj hdk hd
    rcases W.ok.look i j o oj t ho hj hd ht with ⟨h1, h2⟩ | ⟨h1, h2⟩
    · have hem : em t = ef t := I.msk.done t fun k ok hk hdk => by rw [huniq k ok hk hdk]; exact hr j h1
      rw [hem]
      split
      · rename_i hm
        have hmj := h2 hm
        rw [I.ef1 j oj t hj hd hmj]
        symm
        exact envAt_at ops.toList vs 0 e0 i j oj W.len (hlow i o ho j h1) (by simpa using hj) (by simpa using hmj) hd fun k ok hne hk hdk => hne (huniq k ok (by simpa using hk) hdk)
      · rfl
    · have hTj : T.getD j false = false := by
        cases hc : T.getD j false with
        | false => rfl
        | true => have := I.closed j oj hj hc i h1; rw [hT] at this; cases this
      rw [I.msk.todo t j oj hj hd hTj]
      have hij := hlow j oj hj i h1
      split
      · rename_i hm
        symm
        refine envAt_other ops.toList vs 0 e0 i fun k ok hk hl _ hdk => ?_
        have := huniq k ok (by simpa using hl) hdk
        omega
      · rename_i hm
        have hl : i ∈ late := hmid.resolve_left hm
        have : midB al late j = false := by
          cases hc : midB al late j with
          | false => rfl
          | true => exact absurd ⟨hl, hc⟩ h2
        exact (I.ef2 j oj t hj hd this hTj).symm
  · have hno : ∀ (j : Nat) (oj : Oper), ops[j]? = some oj → oj.dst ≠ some t := fun j oj hj hd => hex ⟨j, oj, hj, hd⟩
    rw [I.msk.done t fun k ok hk hdk => absurd hdk (hno k ok hk)]
    split
    · rw [I.ef3 t hno]
      symm
      exact envAt_other ops.toList vs 0 e0 i fun k ok hk hl _ => hno k ok (by simpa using hl)
    · rfl

theorem G_indep {o : Oper} {u : AV} (hi : indepOp o.op = true) (h : G P ops o e σ (fun v s => v = u ∧ s = σ)) (σ2 : St) : G P ops o e σ2 (fun v s => v = u ∧ s = σ2) := by
  unfold G at h ⊢
  cases hg : o.guard with
  | none => rw [hg] at h; exact opA_indep hi h σ2
  | some gw =>
    obtain ⟨g, want⟩ := gw
    rw [hg] at h
    simp only at h ⊢
    cases hs : gsl ops g with
    | none => rw [hs] at h; exact h
    | some d =>
      rw [hs] at h
      simp only at h ⊢
      cases hv : e d with
      | lit v =>
        rw [hv] at h
        cases v with
        | bool b => exact ⟨fun hb => opA_indep hi (h.1 hb) σ2, fun hb => ⟨(h.2 hb).1, by simp⟩⟩
        | tuple xs => exact ⟨h.1, by simp⟩
        | _ => exact h.elim
      | _ => rw [hv] at h; exact h.elim

theorem chain_lt {al late : List Nat} (hk : OkD N ops al late) : ∀ (l : List Nat) (i : Nat), chainB ops (i :: l) = true → ∀ j ∈ l, i < j
  | [], _, _, _, hj => absurd hj (by simp)
  | j :: l, i, h, k, hk' => by
    simp only [chainB, Bool.and_eq_true] at h
    have hij : i < j := by
      cases ho : ops[j]? with
      | none => simp [ho] at h
      | some o => exact hk.low j o ho i (by simpa [ho] using h.1)
    rcases List.mem_cons.1 hk' with rfl | hk'
    · exact hij
    · exact Nat.lt_trans hij (chain_lt hk l j h.2 k hk')

theorem chain_tail {i : Nat} {l : List Nat} (h : chainB ops (i :: l) = true) : chainB ops l = true := by
  cases l with
  | nil => rfl
  | cons j l => simp only [chainB, Bool.and_eq_true] at h; exact h.2

theorem chain_suffix : ∀ (l1 l2 : List Nat), chainB ops (l1 ++ l2) = true → chainB ops l2 = true
  | [], _, h => h
  | i :: l1, l2, h => chain_suffix l1 l2 (chain_tail h)

/-- The first of a chain is the only one that waits for none of it. -/
theorem chain_head {T : Array Bool} {i : Nat} {o : Oper} (ho : ops[i]? = some o) (hr : ∀ j, dep o j = true → T.getD j false = true) : ∀ (l : List Nat), chainB ops l = true → (∀ j ∈ l, T.getD j false = false) → i ∈ l → ∃ rest, l = i :: rest
  | [], _, _, hi => absurd hi (by simp)
  | [j], _, _, hi => ⟨[], by simpa using (by simpa using hi : i = j).symm⟩
  | j :: k :: l, hc, hu, hi => by
    rcases List.mem_cons.1 hi with rfl | hi'
    · exact ⟨_, rfl⟩
    · obtain ⟨rest, hrest⟩ := chain_head ho hr (k :: l) (chain_tail hc) (fun m hm => hu m (List.mem_cons_of_mem _ hm)) hi'
      have hki : k = i := by injection hrest
      simp only [chainB, Bool.and_eq_true] at hc
      subst hki
      rw [ho] at hc
      have := hr j hc.1
      rw [hu j (by simp)] at this
      cases this

def unl (ops : Array Oper) (T : Array Bool) : Nat := (List.range ops.size).countP fun i => !T.getD i false

theorem countP_lt {p q : Nat → Bool} (h : ∀ x, q x = true → p x = true) : ∀ (l : List Nat) (y : Nat), y ∈ l → p y = true → q y = false → l.countP q < l.countP p
  | [], _, hy, _, _ => absurd hy (by simp)
  | x :: l, y, hy, hp, hq => by
    simp only [List.countP_cons]
    rcases List.mem_cons.1 hy with rfl | hy'
    · rw [hp, hq]
      have : l.countP q ≤ l.countP p := List.countP_mono_left fun x _ hx => h x hx
      simp; omega
    · have := countP_lt h l y hy' hp hq
      by_cases hqx : q x = true
      · rw [hqx, h x hqx]; omega
      · have hq' : q x = false := by simpa using hqx
        rw [hq']
        simp only [Bool.false_eq_true, if_false]
        omega

theorem unl_set {T : Array Bool} {i : Nat} (hs : T.size = ops.size) (hi : i < ops.size) (hT : T.getD i false = false) : unl ops (T.setIfInBounds i true) < unl ops T := by
  refine countP_lt (fun x hx => ?_) _ i (List.mem_range.2 hi) (by simp [hT]) (by rw [getD_set (by omega)]; simp)
  rw [getD_set (by omega)] at hx
  by_cases h : i = x
  · rw [if_pos h] at hx; cases hx
  · rw [if_neg h] at hx; exact hx

theorem closed_set {T : Array Bool} {i : Nat} {o : Oper} (hs : T.size = ops.size) (ho : ops[i]? = some o) (hc : Closed ops T) (hr : ∀ j, dep o j = true → T.getD j false = true) : Closed ops (T.setIfInBounds i true) := by
  have hi : i < T.size := by rw [hs]; exact (Array.getElem?_eq_some_iff.1 ho).1
  intro k ok hk hTk j hj
  rw [getD_set hi]
  by_cases hij : i = j
  · rw [if_pos hij]
  · rw [if_neg hij]
    rw [getD_set hi] at hTk
    by_cases hik : i = k
    · subst hik; rw [ho] at hk; cases hk; exact hr j hj
    · rw [if_neg hik] at hTk; exact hc k ok hk hTk j hj

theorem ready_iff {T : Array Bool} (hs : T.size = ops.size) {i : Nat} : i ∈ Region.ready .any ops T ↔ ∃ o, ops[i]? = some o ∧ T.getD i false = false ∧ ∀ j, dep o j = true → T.getD j false = true := by
  rw [mem_ready]
  constructor
  · rintro ⟨h1, o, ho, h2⟩
    have hi : i < T.size := by rw [hs]; exact (Array.getElem?_eq_some_iff.1 ho).1
    refine ⟨o, ho, by simp [hi] at h1 ⊢; exact h1, fun j hj => ?_⟩
    obtain ⟨e, he, rfl, hb⟩ := dep_iff.1 hj
    exact h2 e he hb
  · rintro ⟨o, ho, h1, h2⟩
    have hi : i < T.size := by rw [hs]; exact (Array.getElem?_eq_some_iff.1 ho).1
    refine ⟨by simp [hi] at h1 ⊢; exact h1, o, ho, fun e he hb => h2 _ (dep_iff.2 ⟨e, he, rfl, hb⟩)⟩

/-- When none is ready, all are listed. -/
theorem all_listed {al late : List Nat} {T : Array Bool} (hk : OkD N ops al late) (hs : T.size = ops.size) (h : Region.ready .any ops T = []) : ∀ (n i : Nat), i < n → i < ops.size → T.getD i false = true
  | 0, _, h0, _ => absurd h0 (Nat.not_lt_zero _)
  | n + 1, i, hn, hi => by
    cases hc : T.getD i false with
    | true => rfl
    | false =>
      have ho : ops[i]? = some ops[i] := by simp [hi]
      have : i ∈ Region.ready .any ops T := (ready_iff hs).2 ⟨ops[i], ho, hc, fun j hj => by
        have hji := hk.low i _ ho j hj
        exact all_listed hk hs h n j (by omega) (by omega)⟩
      rw [h] at this
      cases this

section
variable {al late : List Nat} {B : Nat → Blk} {mk : Nat → Nat → AV} {Q : Env → St → Prop} {e0 : Env} {σ0 : St} {vs : List AV} {eM : Env} {w0 : World} {A0 : Nat → Prop} {ι0 : Owns} {T : Array Bool} {em ef : Env}

theorem Inv.fin (W : Walk P N ops al late B mk Q e0 σ0 vs eM) (I : Inv P N ops al late B mk Q e0 σ0 vs eM w0 A0 ι0 T a w A ι em ef σ) (hall : ∀ i, i < ops.size → T.getD i false = true) : Q em σ := by
  have hem : em = ef := by
    funext t
    exact I.msk.done t fun j o hj _ => hall j (Array.getElem?_eq_some_iff.1 hj).1
  subst hem
  have hlt : ∀ i ∈ late, T.getD i false = true := fun i hi => by
    obtain ⟨o, ho⟩ := W.ok.lateo i hi
    exact hall i (Array.getElem?_eq_some_iff.1 ho).1
  have hat : ∀ i ∈ al, T.getD i false = true := fun i hi => by
    obtain ⟨o, ho, _⟩ := W.ok.alo i hi
    exact hall i (Array.getElem?_eq_some_iff.1 ho).1
  cases I.ph with
  | early p hp hal hl hs =>
    have hnil : late = [] := by
      cases hc : late with
      | nil => rfl
      | cons l0 rest =>
        have h1 := hl l0 (by simp [hc])
        have h2 := hlt l0 (by simp [hc])
        rw [h1] at h2; cases h2
    have := W.fin p hp fun i => ⟨fun h => ((hal i).1 h).1, fun h => (hal i).2 ⟨h, hat i h⟩⟩
    rw [← hs, hnil] at this
    simpa only [List.filterMap_nil, opsA] using this
  | lated l1 l2 hl hne h1 h2 hal h =>
    have hnil : l2 = [] := by
      cases hc : l2 with
      | nil => rfl
      | cons l0 rest =>
        have h3 := h2 l0 (by simp [hc])
        have h4 := hlt l0 (by simp [hl, hc])
        rw [h3] at h4; cases h4
    rw [hnil] at h
    simpa only [List.filterMap_nil, opsA] using h
end

section
variable {al late : List Nat} {B : Nat → Blk} {mk : Nat → Nat → AV} {Q : Env → St → Prop} {e0 : Env} {σ0 : St} {vs : List AV} {eM : Env} {w0 : World} {A0 : Nat → Prop} {ι0 : Owns}

theorem mem_mid {i : Nat} (h1 : i ∉ al) (h2 : i ∉ late) : midB al late i = true := by simp [midB, h1, h2]
theorem mid_mem {i : Nat} (h : midB al late i = true) : i ∉ al ∧ i ∉ late := by simpa [midB] using h
theorem mid_false {i : Nat} (h : i ∈ al ∨ i ∈ late) : midB al late i = false := by
  cases hc : midB al late i with
  | false => rfl
  | true => have := mid_mem hc; rcases h with h | h <;> simp_all

/-- An operation that is not quiet has run: what the slots stand for. -/
theorem Inv.put {T : Array Bool} {em ef : Env} {σ' : St} {w' : World} {A' : Nat → Prop} {ι' : Owns} {a' : Act} {v : AV} {i : Nat} {o : Oper} (W : Walk P N ops al late B mk Q e0 σ0 vs eM) (I : Inv P N ops al late B mk Q e0 σ0 vs eM w0 A0 ι0 T a w A ι em ef σ)
    (ho : ops[i]? = some o) (hr : ∀ j, dep o j = true → T.getD j false = true) (hm : midB al late i = false) (hN' : a'.tmps.size = N) (hrel : Rel a' w' A' ι' (putE em o.dst v) σ') (hx : Ext w A ι σ w' A' ι' σ')
    (hph : Ph P ops al late B mk Q σ0 eM (T.setIfInBounds i true) (putE ef o.dst v) σ') : Inv P N ops al late B mk Q e0 σ0 vs eM w0 A0 ι0 (T.setIfInBounds i true) a' w' A' ι' (putE em o.dst v) (putE ef o.dst v) σ' := by
  have hi : i < T.size := by rw [I.size]; exact (Array.getElem?_eq_some_iff.1 ho).1
  have other : ∀ t, o.dst ≠ some t → putE ef o.dst v t = ef t := by
    intro t ht
    cases hd : o.dst with
    | none => rfl
    | some d =>
      rw [hd] at ht
      simp only [putE, upd]
      rw [if_neg (fun h => ht (by rw [h]))]
  refine ⟨by simpa using I.size, closed_set I.size ho I.closed hr, hN', hrel, I.ext.trans hx, I.msk.step W.ok ho hi (fun t ht => by rw [ht]; simp [putE, upd]) other, fun j oj t hj hd hmj => ?_, fun j oj t hj hd hmj hT => ?_, fun t ht => ?_, hph⟩
  · rw [other t fun h => ?_]
    · exact I.ef1 j oj t hj hd hmj
    · have := W.ok.uniq i j o oj t ho hj h hd
      subst this; rw [hm] at hmj; cases hmj
  · rw [getD_set hi] at hT
    by_cases hij : i = j
    · rw [if_pos hij] at hT; cases hT
    · rw [if_neg hij] at hT
      rw [other t fun h => hij (W.ok.uniq i j o oj t ho hj h hd)]
      exact I.ef2 j oj t hj hd hmj hT
  · rw [other t (ht i o ho)]
    exact I.ef3 t ht

theorem run_any (W : Walk P N ops al late B mk Q e0 σ0 vs eM) {Qw : Exit → Act → World → Prop} (hQ : ∀ (a : Act) (w : World) (A : Nat → Prop) (ι : Owns) (e' : Env) (σ' : St), a.tmps.size = N → Rel a w A ι e' σ' → Ext w0 A0 ι0 σ0 w A ι σ' → Q e' σ' → Qw .normal a w) :
    ∀ (fuel : Nat) (T : Array Bool) (a : Act) (w : World) (A : Nat → Prop) (ι : Owns) (em ef : Env) (σ : St), Inv P N ops al late B mk Q e0 σ0 vs eM w0 A0 ι0 T a w A ι em ef σ → unl ops T ≤ fuel → wpAny P .any ops Qw fuel T a w
  | 0, T, a, w, A, ι, em, ef, σ, I, hf => by
    have hall : ∀ i, i < ops.size → T.getD i false = true := fun i hi => by
      cases hc : T.getD i false with
      | true => rfl
      | false => have := unl_set I.size hi hc; omega
    refine ⟨?_, hQ a w A ι em σ I.hN I.rel I.ext (I.fin W hall)⟩
    rw [List.eq_nil_iff_forall_not_mem]
    intro i hi
    obtain ⟨o, ho, h1, _⟩ := (ready_iff I.size).1 hi
    rw [hall i (Array.getElem?_eq_some_iff.1 ho).1] at h1
    cases h1
  | fuel + 1, T, a, w, A, ι, em, ef, σ, I, hf => by
    refine ⟨fun hnil => hQ a w A ι em σ I.hN I.rel I.ext (I.fin W fun i hi => all_listed W.ok I.size hnil (i + 1) i (by omega) hi), fun i hi => ?_⟩
    obtain ⟨o, ho, hT, hr⟩ := (ready_iff I.size).1 hi
    have hlt : i < ops.size := (Array.getElem?_eq_some_iff.1 ho).1
    have hiT : i < T.size := by rw [I.size]; exact hlt
    have hfu : unl ops (T.setIfInBounds i true) ≤ fuel := by have := unl_set I.size hlt hT; omega
    have hdst : ∀ d, o.dst = some d → d < N := dstB_spec W.ok.dst (by rw [← Array.getElem?_toList] at ho; exact List.mem_of_getElem? ho)
    by_cases hm : midB al late i = true
    · -- a quiet one
      have hq : G P ops o (envAt al late ops.toList vs 0 e0 i) σ (fun u s => u = vs.getD i .any ∧ s = σ) := by
        cases I.ph with
        | early p hp hal hl hs =>
          have := W.mids i o ho hm p hp fun k hk => ((hal k).1 hk).1
          have e1 : (AL ops B mk p e0 σ0).2 = σ := by rw [AL_snd p e0 eM, ← hs]
          rw [e1] at this
          exact this
        | lated l1 l2 hl hne h1 h2 hal h =>
          obtain ⟨l0, rest, rfl⟩ : ∃ l0 rest, l1 = l0 :: rest := by cases l1 with
            | nil => exact absurd rfl hne
            | cons l0 rest => exact ⟨l0, rest, rfl⟩
          rcases W.ok.first l0 (rest ++ l2) (by simpa using hl) i hlt with h3 | h3 | h3
          · exact absurd h3 (mid_mem hm).2
          · have := anc_listed I.closed (l0 + 1) [l0] (by simpa using h1 l0 (by simp)) i h3
            rw [hT] at this; cases this
          · have h4 := W.mids i o ho hm [] (by simp) (by simp)
            refine G_indep ?_ h4 σ
            have := h3.1
            simpa [indepAt, ho] using this
      have hlook := I.looks W ho hT hr (.inl hm)
      simp only [hm, if_true] at hlook
      refine wpOp_of_G ho I.hN hdst I.rel (G_env (fun t ht => (hlook t ht).symm) hq) ?_
      rintro v a' w' A' ι' σ' g1 g2 g3 ⟨rfl, rfl⟩
      refine run_any W hQ fuel _ _ _ A' ι' _ ef σ' ⟨by simpa using I.size, closed_set I.size ho I.closed hr, g1, g2, I.ext.trans g3, I.msk.step W.ok ho hiT (fun t ht => I.ef1 i o t ho ht hm) (fun _ _ => rfl), I.ef1, fun j oj t hj hd hmj hTj => ?_, I.ef3, ?_⟩ hfu
      · rw [getD_set hiT] at hTj
        by_cases hij : i = j
        · rw [if_pos hij] at hTj; cases hTj
        · rw [if_neg hij] at hTj; exact I.ef2 j oj t hj hd hmj hTj
      · have hne' : ∀ k, (k ∈ al ∨ k ∈ late) → i ≠ k := fun k hk h => by
          subst h
          rw [mid_false hk] at hm
          cases hm
        cases I.ph with
        | early p hp hal hl hs =>
          refine .early p hp (fun k => ⟨fun hk => ⟨((hal k).1 hk).1, getD_set_true ((hal k).1 hk).2⟩, fun hk => (hal k).2 ⟨hk.1, ?_⟩⟩) (fun k hk => ?_) hs
          · have := hk.2; rw [getD_set hiT, if_neg (hne' k (.inl hk.1))] at this; exact this
          · rw [getD_set hiT, if_neg (hne' k (.inr hk))]; exact hl k hk
        | lated l1 l2 hl hne h1 h2 hal h =>
          refine .lated l1 l2 hl hne (fun k hk => getD_set_true (h1 k hk)) (fun k hk => ?_) (fun k hk => getD_set_true (hal k hk)) h
          rw [getD_set hiT, if_neg (hne' k (.inr (by rw [hl]; simp [hk])))]; exact h2 k hk
    · have hm' : midB al late i = false := by simpa using hm
      have hcase : i ∈ al ∨ i ∈ late := by
        by_cases h1 : i ∈ al
        · exact .inl h1
        · by_cases h2 : i ∈ late
          · exact .inr h2
          · exact absurd (mem_mid h1 h2) hm
      rcases hcase with hal' | hlate'
      · -- a fresh block
        obtain ⟨o', ho', hno, hg, hnl⟩ := W.ok.alo i hal'
        rw [ho] at ho'
        cases ho'
        cases I.ph with
        | lated l1 l2 hl hne h1 h2 hal h => have := hal i hal'; rw [hT] at this; cases this
        | early p hp hal hl hs =>
          have hG : G P ops o em σ (fun v s => v = mk i σ.n ∧ s = σ.new (B i)) := by
            unfold G; rw [hg]; exact W.news i hal' o ho em σ
          refine wpOp_of_G ho I.hN hdst I.rel hG ?_
          rintro v a' w' A' ι' σ' g1 g2 g3 ⟨rfl, rfl⟩
          have hip : i ∉ p := fun h => by have := ((hal i).1 h).2; rw [hT] at this; cases this
          refine run_any W hQ fuel _ _ _ A' ι' _ _ _ (I.put W ho hr hm' g1 g2 g3 (.early (p ++ [i]) ?_ (fun k => ?_) (fun k hk => ?_) ?_)) hfu
          · rw [List.nodup_append]
            exact ⟨hp, by simp, fun x hx y hy => by simp at hy; subst hy; exact fun h => hip (h ▸ hx)⟩
          · rw [getD_set hiT]
            by_cases hik : i = k
            · subst hik; simp [hal']
            · rw [if_neg hik, List.mem_append, List.mem_singleton]
              exact ⟨fun h => h.elim (hal k).1 (fun h => absurd h.symm hik), fun h => .inl ((hal k).2 h)⟩
          · rw [getD_set hiT, if_neg (fun (h : i = k) => hnl (h ▸ hk))]; exact hl k hk
          · rw [AL_snoc, ← hs]
            simp [ho]
      · -- a late one
        have hstep : ∃ l1 rest, late = l1 ++ i :: rest ∧ (∀ k ∈ l1, T.getD k false = true) ∧ (∀ k ∈ i :: rest, T.getD k false = false) ∧ (∀ k ∈ al, T.getD k false = true) ∧ opsA P ops ((i :: rest).filterMap fun i => ops[i]?) Q ef σ := by
          cases I.ph with
          | early p hp hal hl hs =>
            obtain ⟨rest, hrest⟩ := chain_head ho hr late W.ok.chain hl hlate'
            have hall : ∀ k ∈ al, T.getD k false = true := fun k hk => by
              obtain ⟨ok, hok, _, _, hnl⟩ := W.ok.alo k hk
              have hc' := closed_set I.size ho I.closed hr
              rcases W.ok.first i rest hrest k (Array.getElem?_eq_some_iff.1 hok).1 with h3 | h3 | h3
              · exact absurd h3 hnl
              · have := anc_listed hc' (i + 1) [i] (by intro m hm; simp at hm; subst hm; rw [getD_set hiT]; simp) k h3
                rw [getD_set hiT, if_neg (fun (h : i = k) => hnl (h ▸ hlate'))] at this
                exact this
              · exact absurd hk h3.2
            refine ⟨[], rest, by simpa using hrest, by simp, fun k hk => hl k (by rw [hrest]; exact hk), hall, ?_⟩
            have := W.fin p hp fun k => ⟨fun h => ((hal k).1 h).1, fun h => (hal k).2 ⟨h, hall k h⟩⟩
            rw [← hs, hrest] at this
            exact this
          | lated l1 l2 hl hne h1 h2 hal h =>
            have hi2 : i ∈ l2 := by
              rw [hl] at hlate'
              rcases List.mem_append.1 hlate' with h3 | h3
              · have := h1 i h3; rw [hT] at this; cases this
              · exact h3
            obtain ⟨rest, hrest⟩ := chain_head ho hr l2 (chain_suffix l1 l2 (by rw [← hl]; exact W.ok.chain)) h2 hi2
            subst hrest
            exact ⟨l1, rest, hl, h1, h2, hal, h⟩
        obtain ⟨l1, rest, hl, h1, h2, hal, h⟩ := hstep
        have hlook := I.looks W ho hT hr (.inr hlate')
        simp only [hm', Bool.false_eq_true, if_false] at hlook
        simp only [List.filterMap_cons, ho] at h
        refine wpOp_of_G ho I.hN hdst I.rel (G_env (fun t ht => (hlook t ht).symm) (G_of_opsA h)) ?_
        intro v a' w' A' ι' σ' g1 g2 g3 g4
        refine run_any W hQ fuel _ _ _ A' ι' _ _ _ (I.put W ho hr hm' g1 g2 g3 (.lated (l1 ++ [i]) rest (by simpa using hl) (by simp) (fun k hk => ?_) (fun k hk => ?_) (fun k hk => getD_set_true (hal k hk)) g4)) hfu
        · rw [getD_set hiT]
          rcases List.mem_append.1 hk with h3 | h3
          · split
            · rfl
            · exact h1 k h3
          · simp at h3; subst h3; simp
        · have hik := chain_lt W.ok rest i (chain_suffix l1 (i :: rest) (by rw [← hl]; exact W.ok.chain)) k hk
          rw [getD_set hiT, if_neg (by omega)]
          exact h2 k (List.mem_cons_of_mem _ hk)
end

/-- A region whose order is left open, from the walk of its quiet operations in the text's order. -/
theorem Sat.drawn {id : Nat} {al late : List Nat} {Q : Exit → Env → St → Prop} (B : Nat → Blk) (mk : Nat → Nat → AV) (hm : P.follows .mixedOrders = true) (hB : okD N ops al late = true)
    (news : ∀ i ∈ al, ∀ o, ops[i]? = some o → ∀ (e : Env) (σ : St), opA P o.op e σ (fun v _ s => v = mk i σ.n ∧ s = σ.new (B i)))
    (h : midA P ops al late (fun σ' => ∃ p : List Nat, p.Nodup ∧ (∀ i ∈ p, i ∈ al) ∧ σ' = (AL ops B mk p e σ).2) 0 ops.toList
      (fun eM => ∀ p : List Nat, p.Nodup → (∀ i, i ∈ p ↔ i ∈ al) → opsA P ops (late.filterMap fun i => ops[i]?) (Q .normal) (AL ops B mk p eM σ).1 (AL ops B mk p eM σ).2) e) :
    Sat P N (.region id ops true) Q e σ := fun a w A ι hN hr => by
  obtain ⟨vs, g1, g2, g3⟩ := midA_vals ops.toList 0 e h
  have ok := okD_spec hB
  have W : Walk P N ops al late B mk (Q .normal) e σ vs (envAt al late ops.toList vs 0 e ops.toList.length) :=
    ⟨ok, g1, fun j o hj hmj p hp hpa => g2 j o (by simpa using hj) (by simpa using hmj) _ ⟨p, hp, hpa, rfl⟩, rfl, news, g3⟩
  have hr' : Rel a { w with drawn := w.drawn + 1 } A ι e σ := by
    obtain ⟨h1, h2, h3⟩ := hr
    refine ⟨h1, ?_, fun i => (h3 i).mono (Nat.le_refl _) (fun _ h => h) (fun _ _ => rfl) (fun _ _ => rfl)⟩
    refine ⟨fun id hid => ?_, h2.inj, h2.away, h2.inA, h2.dead⟩
    exact (h2.ok id hid).mono (Nat.le_refl _) (fun _ h => h) (fun _ _ => rfl) (fun _ _ => rfl) (fun _ _ => rfl)
  have hx' : Ext w A ι σ { w with drawn := w.drawn + 1 } A ι σ := ⟨rfl, rfl, rfl, Nat.le_refl _, Nat.le_refl _, fun _ _ => rfl, fun _ h => h, fun _ _ _ => rfl, fun _ h => .inl h, fun _ h => .inl h⟩
  refine wp_region_any hm (run_any (w0 := w) (A0 := A) (ι0 := ι) W (fun a' w' A' ι' e' σ' k1 k2 k3 k4 => ⟨e', σ', A', ι', k1, k2, k3, k4⟩) ops.size (Array.replicate ops.size false) a _ A ι e (envAt al late ops.toList vs 0 e ops.toList.length) σ ?_ ?_)
  · have hfalse : ∀ i, (Array.replicate ops.size false).getD i false = false := fun i => by simp [Array.getElem?_replicate]; split <;> rfl
    refine ⟨by simp, fun i o _ h => (by rw [hfalse] at h; cases h), hN, hr', hx', ⟨fun t ht => ?_, fun t j o hj hd _ => rfl⟩, fun j o t hj hd hmj => ?_, fun j o t hj hd hmj _ => ?_, fun t ht => ?_, .early [] (by simp) (fun i => by simp [hfalse]) (fun i _ => hfalse i) rfl⟩
    · symm
      exact envAt_other ops.toList vs 0 e _ fun k o _ hk _ hd => by have := ht k o (by simpa using hk) hd; rw [hfalse] at this; cases this
    · have hlt := (Array.getElem?_eq_some_iff.1 hj).1
      exact envAt_at ops.toList vs 0 e _ j o g1 (by simpa using hlt) (by simpa using hj) (by simpa using hmj) hd fun k ok' hne hk hdk => hne (ok.uniq k j ok' o t (by simpa using hk) hj hdk hd)
    · exact envAt_other ops.toList vs 0 e _ fun k ok' _ hk hmk hdk => by
        have := ok.uniq k j ok' o t (by simpa using hk) hj hdk hd
        subst this
        rw [Nat.zero_add, hmj] at hmk; cases hmk
    · exact envAt_other ops.toList vs 0 e _ fun k o _ hk _ => ht k o (by simpa using hk)
  · unfold unl
    exact Nat.le_trans (List.countP_le_length) (by simp)

/-- No fresh blocks. -/
theorem Sat.drawn0 {id : Nat} (late : List Nat) {Q : Exit → Env → St → Prop} (hm : P.follows .mixedOrders = true) (hB : okD N ops [] late = true)
    (h : midA P ops [] late (fun σ' => σ' = σ) 0 ops.toList (fun eM => opsA P ops (late.filterMap fun i => ops[i]?) (Q .normal) eM σ) e) : Sat P N (.region id ops true) Q e σ := by
  refine Sat.drawn (fun _ => .dead) (fun _ _ => .any) hm hB (by simp) ?_
  have e1 : (fun σ' : St => ∃ p : List Nat, p.Nodup ∧ (∀ i ∈ p, i ∈ ([] : List Nat)) ∧ σ' = (AL ops (fun _ => .dead) (fun _ _ => .any) p e σ).2) = fun σ' => σ' = σ := by
    funext σ'
    apply propext
    constructor
    · rintro ⟨p, _, hp, rfl⟩
      have : p = [] := List.eq_nil_iff_forall_not_mem.2 fun i hi => by simpa using hp i hi
      subst this; rfl
    · rintro rfl; exact ⟨[], by simp, by simp, rfl⟩
  have e2 : (fun eM : Env => ∀ p : List Nat, p.Nodup → (∀ i, i ∈ p ↔ i ∈ ([] : List Nat)) → opsA P ops (late.filterMap fun i => ops[i]?) (Q .normal) (AL ops (fun _ => .dead) (fun _ _ => .any) p eM σ).1 (AL ops (fun _ => .dead) (fun _ _ => .any) p eM σ).2) = fun eM => opsA P ops (late.filterMap fun i => ops[i]?) (Q .normal) eM σ := by
    funext eM
    apply propext
    constructor
    · intro h; exact h [] (by simp) (by simp)
    · intro h p _ hp
      have : p = [] := List.eq_nil_iff_forall_not_mem.2 fun i hi => by simpa using (hp i).1 hi
      subst this; exact h
  rw [e1, e2]
  exact h

/-- One fresh block. -/
theorem Sat.drawn1 {id : Nat} (i : Nat) (B : Blk) (mk : Nat → AV) (late : List Nat) {Q : Exit → Env → St → Prop} (hm : P.follows .mixedOrders = true) (hB : okD N ops [i] late = true)
    (news : ∀ o, ops[i]? = some o → ∀ (e : Env) (σ : St), opA P o.op e σ (fun v _ s => v = mk σ.n ∧ s = σ.new B))
    (h : midA P ops [i] late (fun σ' => σ' = σ ∨ σ' = σ.new B) 0 ops.toList (fun eM => opsA P ops (late.filterMap fun i => ops[i]?) (Q .normal) (putE eM ((ops[i]?).bind (·.dst)) (mk σ.n)) (σ.new B)) e) : Sat P N (.region id ops true) Q e σ := by
  refine Sat.drawn (fun _ => B) (fun _ => mk) hm hB (by simpa using news) ?_
  have hp1 : ∀ p : List Nat, p.Nodup → (∀ k ∈ p, k ∈ [i]) → p = [] ∨ p = [i] := by
    intro p hp h
    cases p with
    | nil => exact .inl rfl
    | cons x p =>
      have hx : x = i := by simpa using h x (by simp)
      subst hx
      have : p = [] := List.eq_nil_iff_forall_not_mem.2 fun k hk => by
        have h1 : k = x := by simpa using h k (by simp [hk])
        subst h1
        exact (List.nodup_cons.1 hp).1 hk
      subst this; exact .inr rfl
  have e1 : (fun σ' : St => ∃ p : List Nat, p.Nodup ∧ (∀ k ∈ p, k ∈ [i]) ∧ σ' = (AL ops (fun _ => B) (fun _ => mk) p e σ).2) = fun σ' => σ' = σ ∨ σ' = σ.new B := by
    funext σ'
    apply propext
    constructor
    · rintro ⟨p, h1, hp, rfl⟩
      rcases hp1 p h1 hp with rfl | rfl
      · exact .inl rfl
      · exact .inr rfl
    · rintro (rfl | rfl)
      · exact ⟨[], by simp, by simp, rfl⟩
      · exact ⟨[i], by simp, by simp, rfl⟩
  have e2 : (fun eM : Env => ∀ p : List Nat, p.Nodup → (∀ k, k ∈ p ↔ k ∈ [i]) → opsA P ops (late.filterMap fun i => ops[i]?) (Q .normal) (AL ops (fun _ => B) (fun _ => mk) p eM σ).1 (AL ops (fun _ => B) (fun _ => mk) p eM σ).2) = fun eM => opsA P ops (late.filterMap fun i => ops[i]?) (Q .normal) (putE eM ((ops[i]?).bind (·.dst)) (mk σ.n)) (σ.new B) := by
    funext eM
    apply propext
    constructor
    · intro h; exact h [i] (by simp) (by simp)
    · intro h p h1 hp
      rcases hp1 p h1 (fun k hk => (hp k).1 hk) with rfl | rfl
      · have := (hp i).2 (by simp); simp at this
      · exact h
  rw [e1, e2]
  exact h

/-- Two fresh blocks, in either order. -/
theorem Sat.drawn2 {id : Nat} (i j : Nat) (hij : i ≠ j) (B C : Blk) (mk mk' : Nat → AV) (late : List Nat) {Q : Exit → Env → St → Prop} (hm : P.follows .mixedOrders = true) (hB : okD N ops [i, j] late = true)
    (news : ∀ o, ops[i]? = some o → ∀ (e : Env) (σ : St), opA P o.op e σ (fun v _ s => v = mk σ.n ∧ s = σ.new B))
    (news' : ∀ o, ops[j]? = some o → ∀ (e : Env) (σ : St), opA P o.op e σ (fun v _ s => v = mk' σ.n ∧ s = σ.new C))
    (h : midA P ops [i, j] late (fun σ' => σ' = σ ∨ σ' = σ.new B ∨ σ' = σ.new C ∨ σ' = (σ.new B).new C ∨ σ' = (σ.new C).new B) 0 ops.toList (fun eM =>
      opsA P ops (late.filterMap fun i => ops[i]?) (Q .normal) (putE (putE eM ((ops[i]?).bind (·.dst)) (mk σ.n)) ((ops[j]?).bind (·.dst)) (mk' (σ.new B).n)) ((σ.new B).new C) ∧
      opsA P ops (late.filterMap fun i => ops[i]?) (Q .normal) (putE (putE eM ((ops[j]?).bind (·.dst)) (mk' σ.n)) ((ops[i]?).bind (·.dst)) (mk (σ.new C).n)) ((σ.new C).new B)) e) : Sat P N (.region id ops true) Q e σ := by
  refine Sat.drawn (fun k => if k = i then B else C) (fun k => if k = i then mk else mk') hm hB (fun k hk o ho e σ => ?_) ?_
  · rcases List.mem_cons.1 hk with rfl | hk
    · simpa using news o ho e σ
    · have : k = j := by simpa using hk
      subst this
      simpa [Ne.symm hij] using news' o ho e σ
  have hp1 : ∀ p : List Nat, p.Nodup → (∀ k ∈ p, k ∈ [i, j]) → p = [] ∨ p = [i] ∨ p = [j] ∨ p = [i, j] ∨ p = [j, i] := by
    intro p hp h
    cases p with
    | nil => exact .inl rfl
    | cons x p =>
      have hx := h x (by simp)
      cases p with
      | nil => rcases List.mem_cons.1 hx with rfl | hx
               · exact .inr (.inl rfl)
               · have : x = j := by simpa using hx
                 subst this; exact .inr (.inr (.inl rfl))
      | cons y p =>
        have hy := h y (by simp)
        have hnil : p = [] := List.eq_nil_iff_forall_not_mem.2 fun z hz => by
          have hz' := h z (by simp [hz])
          simp only [List.nodup_cons, List.mem_cons, not_or] at hp
          have h1 : x ≠ y := hp.1.1
          have h2 : x ≠ z := fun h => hp.1.2 (h ▸ hz)
          have h3 : y ≠ z := fun h => hp.2.1 (h ▸ hz)
          simp only [List.mem_cons, List.not_mem_nil, or_false] at hx hy hz'
          omega
        subst hnil
        have h1 : x ≠ y := by simp at hp; exact hp
        simp only [List.mem_cons, List.not_mem_nil, or_false] at hx hy
        rcases hx with rfl | rfl <;> rcases hy with rfl | rfl
        · exact absurd rfl h1
        · simp
        · simp
        · exact absurd rfl h1
  have hji : ¬ (j = i) := fun h => hij h.symm
  have e1 : (fun σ' : St => ∃ p : List Nat, p.Nodup ∧ (∀ k ∈ p, k ∈ [i, j]) ∧ σ' = (AL ops (fun k => if k = i then B else C) (fun k => if k = i then mk else mk') p e σ).2) = fun σ' => σ' = σ ∨ σ' = σ.new B ∨ σ' = σ.new C ∨ σ' = (σ.new B).new C ∨ σ' = (σ.new C).new B := by
    funext σ'
    apply propext
    constructor
    · rintro ⟨p, h1, hp, rfl⟩
      rcases hp1 p h1 hp with rfl | rfl | rfl | rfl | rfl <;> simp [AL, hji]
    · rintro (rfl | rfl | rfl | rfl | rfl)
      · exact ⟨[], by simp, by simp, rfl⟩
      · exact ⟨[i], by simp, by simp, by simp [AL]⟩
      · exact ⟨[j], by simp, by simp, by simp [AL, hji]⟩
      · exact ⟨[i, j], by simp [hij], by simp, by simp [AL, hji]⟩
      · exact ⟨[j, i], by simp [hji], by simp, by simp [AL, hji]⟩
  rw [e1]
  have mono : ∀ (l : List Oper) (n : Nat) (e : Env) (R R' : Env → Prop) (L : St → Prop), (∀ e, R e → R' e) → midA P ops [i, j] late L n l R e → midA P ops [i, j] late L n l R' e := by
    intro l
    induction l with
    | nil => intro n e R R' L hR h; exact hR e h
    | cons o l ih =>
      intro n e R R' L hR h
      simp only [midA] at h ⊢
      split
      · rename_i hm
        rw [if_pos hm] at h
        unfold midG at h ⊢
        split at h
        · obtain ⟨v, h1, h2⟩ := h
          exact ⟨v, h1, ih _ _ R R' L hR h2⟩
        · split at h
          · exact h.elim
          · split at h
            · exact ⟨fun hb => by obtain ⟨v, h1, h2⟩ := h.1 hb; exact ⟨v, h1, ih _ _ R R' L hR h2⟩, fun hb => ih _ _ R R' L hR (h.2 hb)⟩
            · exact ih _ _ R R' L hR h
            · exact h.elim
      · rename_i hm
        rw [if_neg hm] at h
        exact ih _ _ R R' L hR h
  refine mono _ _ _ _ _ _ ?_ h
  rintro eM ⟨h1, h2⟩ p hp hpi
  rcases hp1 p hp (fun k hk => (hpi k).1 hk) with rfl | rfl | rfl | rfl | rfl
  · have := (hpi i).2 (by simp); simp at this
  · have := (hpi j).2 (by simp); simp at this; exact absurd this hji
  · have := (hpi i).2 (by simp); simp at this; exact absurd this hij
  · simpa [AL, hji] using h1
  · simpa [AL, hji] using h2
end
end Go.Proofs.Qqz
namespace Go.Proofs.Qqz
open Go

/-- References to the blocks of F, turned into data. -/
def fzV (F : List Nat) (σ : St) : Nat → AV → AV
  | 0, _ => .any
  | k + 1, x =>
    match x with
    | .os id off len => if F.contains id = true then
        (match σ.h id with
        | .flat _ rows => if off + len ≤ rows.length then .ps ((rows.drop off).take len) else .any
        | _ => .any) else .os id off len
    | .ptr id r c => if F.contains id = true then
        (match σ.h id with
        | .flat _ rows => if r < rows.length then .pa (rows.getD r []) c else .any
        | _ => .any) else .ptr id r c
    | .agg l => .agg (l.map (fzV F σ k))
    | .tup l => .tup (l.map (fzV F σ k))
    | .clo g l => .clo g (l.map (fzV F σ k))
    | x => x

def fzS (F : List Nat) (σ : St) : St := ⟨σ.n, fun id => if F.contains id = true then .dead else σ.h id⟩
def fzE (F : List Nat) (σ : St) (e : Env) : Env := fun i => fzV F σ 6 (e i)

section
variable {P : Program} {w : World} {A : Nat → Prop} {ι : Owns} {σ : St} {e : Env} {K : KT} {a : Act} {N : Nat} {Q : Exit → Env → St → Prop} {c : Code} {F : List Nat}

/-- The blocks of data, with those of F. -/
def Afz (A : Nat → Prop) (ι : Owns) (σ : St) (F : List Nat) : Nat → Prop := fun b => A b ∨ ∃ id, id ∈ F ∧ id < σ.n ∧ (σ.h id).live = true ∧ (ι id).virt = false ∧ (ι id).blk = b

theorem fzV_VR (hr : Real w A ι σ) : ∀ (k : Nat) (v : Value) (x : AV), VR w A ι σ.n v x → VR w (Afz A ι σ F) ι σ.n v (fzV F σ k x)
  | 0, _, _, _ => .any
  | k + 1, v, x, h => by
    have ih : ∀ v x, VR w A ι σ.n v x → VR w (Afz A ι σ F) ι σ.n v (fzV F σ k x) := fun v x h => fzV_VR hr k v x h
    have up : ∀ {n v x}, VR w A ι n v x → VR w (Afz A ι σ F) ι n v x := fun h => h.mono (Nat.le_refl _) (fun _ h => .inl h) (fun _ _ => rfl) (fun _ _ => rfl)
    have hA : ∀ id B, id < σ.n → F.contains id = true → (ι id).virt = false → σ.h id = B → B.live = true → Afz A ι σ F (ι id).blk := fun id B h0 h1 hv h2 h3 => .inr ⟨id, by simpa using h1, h0, by rw [h2]; exact h3, hv, rfl⟩
    cases h with
    | any => exact .any
    | lit => exact .lit
    | agg vs l hl hel => exact .agg vs _ (by simpa using hl) (map_VR hel ih)
    | tup vs l hl hel => exact .tup vs _ (by simpa using hl) (map_VR hel ih)
    | clo vs l hl hel => exact .clo vs _ (by simpa using hl) (map_VR hel ih)
    | psz => exact .psz
    | ps wd cv h1 h2 h3 h4 h5 => exact up (.ps wd cv h1 h2 h3 h4 h5)
    | pa cv h1 h2 h3 => exact up (.pa cv h1 h2 h3)
    | @os _ id off len cap hn hv hcap hl =>
      simp only [fzV]
      by_cases hid : F.contains id = true
      · rw [if_pos hid]
        have hb := hr.ok id hn
        cases hB : σ.h id with
        | dead => exact .any
        | deep wd rows => exact .any
        | flat wd rows =>
          rw [hB] at hb
          simp only
          split
          · rename_i hle
            have := RowsOk.frzRow (m := σ.n) hb hv (hA id _ hn hid hv hB rfl) (g := fun x => x) (fun v x h => up h) hle hl
            simpa using this
          · exact .any
      · rw [if_neg hid]; exact .os hn hv hcap hl
    | @osz _ id off a hn =>
      simp only [fzV]
      by_cases hid : F.contains id = true
      · rw [if_pos hid]
        cases hB : σ.h id with
        | dead => exact .any
        | deep wd rows => exact .any
        | flat wd rows =>
          simp only
          split
          · simpa using VR.psz
          · exact .any
      · rw [if_neg hid]; exact .osz hn
    | @ptr _ id r c hn hv =>
      simp only [fzV]
      by_cases hid : F.contains id = true
      · rw [if_pos hid]
        have hb := hr.ok id hn
        cases hB : σ.h id with
        | dead => exact .any
        | deep wd rows => exact .any
        | flat wd rows =>
          rw [hB] at hb
          simp only
          split
          · rename_i hlt
            have hrow : rows[r]? = some (rows.getD r []) := by simp [List.getD, List.getElem?_eq_getElem hlt]
            have hat := RowsOk.rowAt hb hv hrow
            have hex : ∀ j, ∃ v, ∀ a, (rows.getD r [])[j]? = some a → w.cell? ⟨(ι id).blk, r * (ι id).wd + j, none⟩ = some v ∧ VR w A ι 0 v a := by
              intro j
              cases hj : (rows.getD r [])[j]? with
              | none => exact ⟨undef, nofun⟩
              | some a =>
                obtain ⟨v, h1, h2⟩ := hat j a hj
                exact ⟨v, fun a' h => by cases h; exact ⟨h1, h2⟩⟩
            exact .pa (fun j => (hex j).choose) (hA id _ hn hid hv hB rfl) (fun j a ha => ((hex j).choose_spec a ha).1) (fun j a ha => up ((hex j).choose_spec a ha).2)
          · exact .any
      · rw [if_neg hid]; exact .ptr hn hv

theorem Real.fz (hr : Real w A ι σ) : Real w (Afz A ι σ F) ι (fzS F σ) ∧ Ext w A ι σ w (Afz A ι σ F) ι (fzS F σ) := by
  have hsub : ∀ id, (((fzS F σ).h id).live = true → id ∉ F ∧ (fzS F σ).h id = σ.h id) := by
    intro id h
    simp only [fzS] at h ⊢
    by_cases hid : F.contains id = true
    · rw [if_pos hid] at h; cases h
    · rw [if_neg hid] at h ⊢; exact ⟨by simpa using hid, rfl⟩
  have hlive : ∀ b, Live ι (fzS F σ) b → Live ι σ b := by
    rintro b ⟨id, h1, h2, h3, h4⟩
    exact ⟨id, h1, by rw [← (hsub id h2).2]; exact h2, h3, h4⟩
  have hAl : ∀ b, Afz A ι σ F b → A b ∨ Live ι σ b := by
    rintro b (h | ⟨id, _, h2, h3, h4, h5⟩)
    · exact .inl h
    · exact .inr ⟨id, h2, h3, h4, h5⟩
  refine ⟨⟨fun id hid => ?_, fun i j hi hj h1 h2 h3 h4 h5 => ?_, fun b hb hb' => ?_, fun b hb => ?_, fun id hid => ?_⟩, ⟨rfl, rfl, rfl, Nat.le_refl _, Nat.le_refl _, fun _ _ => rfl, fun b hb => .inl hb, fun _ _ _ => rfl, fun b hb => .inl (hlive b hb), fun b hb => (hAl b hb).elim .inl fun h => .inr (.inl h)⟩⟩
  · have := (hr.ok id hid).mono (n' := σ.n) (A' := Afz A ι σ F) (Nat.le_refl _) (fun _ h => .inl h) (fun _ _ => rfl) (fun _ _ => rfl) (fun _ _ => rfl)
    simp only [fzS]
    split
    · trivial
    · exact this
  · exact hr.inj i j hi hj (by rw [← (hsub i h1).2]; exact h1) (by rw [← (hsub j h2).2]; exact h2) h3 h4 h5
  · obtain ⟨k, k1, k2, k3, k4⟩ := hb'
    have hk := hsub k k2
    rcases hb with hb | ⟨id, g0, g1, g2, g3, g4⟩
    · exact hr.away b hb ⟨k, k1, by rw [← hk.2]; exact k2, k3, k4⟩
    · have := hr.inj id k g1 k1 g2 (by rw [← hk.2]; exact k2) g3 k3 (g4.trans k4.symm)
      subst this
      exact hk.1 g0
  · exact (hAl b hb).elim (hr.inA b) hr.live_lt
  · simp only [fzS]
    split
    · rfl
    · exact hr.dead id hid

/-- Blocks are given up for writing. -/
theorem Sat.fz (F : List Nat) (h : Sat P N c Q (fzE F σ e) (fzS F σ)) : Sat P N c Q e σ := fun a w A ι hN hr => by
  obtain ⟨h1, h2, h3⟩ := hr
  obtain ⟨r1, r2⟩ := h2.fz (F := F)
  exact wp_mono (h a w (Afz A ι σ F) ι hN ⟨h1, r1, fun i => fzV_VR h2 6 _ _ (h3 i)⟩) fun x a' w' hp => hp.trans r2


/-- A call of a function value; blocks may be given up for writing ahead of it. -/
def callF (P : Program) (f : AV) (args : List AV) (e : Env) (σ : St) (K : KT) : Prop :=
  match f with
  | .clo g caps => ACall P g ((args ++ caps).map (nlV 3)) e σ K ∨ ∃ F : List Nat, ACall P g (((args ++ caps).map (fzV F σ 6)).map (nlV 3)) (fzE F σ e) (fzS F σ) K
  | _ => False

/-- One byte of the call's own, turned into a text. -/
def bytesF (P : Program) (s d : TypeId) (id off len : Nat) (e : Env) (σ : St) (K : KT) : Prop :=
  (match P.underlying s with | some (.slice el) => P.underlying el = some (.int .u8) | _ => False) ∧ P.underlying d = some .string ∧ off = 0 ∧ len = 1 ∧
    match σ.h id with
    | .flat 1 [[.lit (.int .u8 n)]] => K (.lit (.string (ByteArray.empty.push (UInt8.ofNat n.toNat)))) e σ
    | _ => False

/-- A conversion; an own slice is a list of bytes. -/
def convF (P : Program) (s d : TypeId) (x : AV) (e : Env) (σ : St) (K : KT) : Prop :=
  match x with
  | .os id off len => bytesF P s d id off len e σ K
  | x => (P.underlying s).isSome = true ∧ convA P d x e σ K

def opF (P : Program) (op : Op) (e : Env) (σ : St) (K : KT) : Prop :=
  match op with
  | .call ⟨.value f, args, _⟩ => callF P (evA e f) (args.toList.map (evA e)) e σ K
  | .convert s d x => convF P s d (evA e x) e σ K
  | op => opA P op e σ K

def opsF (P : Program) (ops : Array Oper) : List Oper → (Env → St → Prop) → Env → St → Prop
  | [], Q, e, σ => Q e σ
  | o :: rest, Q, e, σ =>
    match o.guard with
    | none => opF P o.op e σ (fun av e' σ' => opsF P ops rest Q (putE e' o.dst av) σ')
    | some (g, want) =>
      match gsl ops g with
      | none => False
      | some d =>
        match e d with
        | .lit (.bool b) => (b = want → opF P o.op e σ (fun av e' σ' => opsF P ops rest Q (putE e' o.dst av) σ')) ∧ (b = (!want) → opsF P ops rest Q (putE e o.dst (.lit undef)) σ)
        | .lit (.tuple _) => opsF P ops rest Q (putE e o.dst (.lit undef)) σ
        | _ => False

theorem opF_sound (hr : Real w A ι σ) (he : ∀ i, VR w A ι σ.n (a.tmps.getD i undef) (e i)) {o : Oper} (h : opF P o.op e σ K) {next : Act → World → Prop} {Q : Exit → Act → World → Prop}
    (hn : ∀ v w', Got (fun i => a.tmps.getD i undef) w A ι σ K v w' → next (a.put o.dst v) w') : o.wp P a w next Q := by
  obtain ⟨dst, op, type, pos, after, guard⟩ := o
  by_cases hc : ∃ f args ts, op = .call ⟨.value f, args, ts⟩
  · obtain ⟨f, args, argTypes, rfl⟩ := hc
    simp only [opF, callF] at h
    split at h
    case h_2 => exact h.elim
    rename_i g caps hf
    rcases h with h | ⟨F, ⟨fn, h1, h2, h3⟩, hcall⟩
    · exact opA_sound (o := ⟨dst, .call ⟨.value f, args, argTypes⟩, type, pos, after, guard⟩) hr he (by simp only [opA, callA, callV, hf]; exact h) hn
    obtain ⟨r1, r2⟩ := hr.fz (F := F)
    have hfv := ev_VR he f
    rw [hf] at hfv
    generalize hv : a.eval f = v at hfv
    cases hfv with
    | clo vs l hl hel =>
      have hargs := evs_VRs he args.toList
      have hall : VRs w A ι σ.n (args.toList.map a.eval ++ vs) (args.toList.map (evA e) ++ caps) := ⟨by simp [hl], fun i v b hv hb => by
        rw [List.getElem?_append] at hv hb
        simp only [List.length_map] at hv hb
        split at hv
        · rename_i hlt
          rw [if_pos hlt] at hb
          exact hargs.2 i v b hv hb
        · rename_i hlt
          rw [if_neg hlt] at hb
          exact hel _ v b hv hb⟩
      have hcs := hcall w (Afz A ι σ F) ι (args.toList.map a.eval ++ vs) r1 (nlVs (args := (args.toList.map (evA e) ++ caps).map (fzV F σ 6)) ⟨by simpa using hall.1, fun i v b hv hb => by
        rw [List.getElem?_map] at hb
        obtain ⟨x, hx, rfl⟩ := Option.map_eq_some_iff.1 hb
        exact fzV_VR hr 6 v x (hall.2 i v x hv hx)⟩ 3)
      have hb : fn.body ≠ none := by cases hb : fn.body <;> simp_all
      have h3' : fn.name ≠ "runtime.NumGoroutine" := by simpa using h3
      have hrun : (execOp a.eval ⟨dst, .call ⟨.value f, args, argTypes⟩, type, pos, after, guard⟩).run P w = .ok (.enter g (args.toList.map a.eval ++ vs).toArray) w := by
        have e1 : (args.toList.map a.eval ++ vs).toArray = args.map a.eval ++ vs.toArray := by
          apply Array.ext'; simp
        rw [e1]
        simp [execOp, resolve, Deferred.ofValue, hv, invoke, callFunc, h1, h3', hb]
      unfold Oper.wp
      rw [hrun]
      simp only [Oper.upon_enter]
      refine hcs.mono fun en w' ⟨v, hen, A', ι', σ', av, g1, g2, g3, g4⟩ => ?_
      subst hen
      exact hn v w' ⟨A', ι', σ', fzE F σ e, av, g1, r2.trans g2, fun i => (show VR w (Afz A ι σ F) ι (fzS F σ).n _ _ from fzV_VR hr 6 _ _ (he i)).ext r1 g2, g3, g4⟩
  by_cases hv : ∃ s d x, op = .convert s d x
  · obtain ⟨s, d, x, rfl⟩ := hv
    simp only [opF, convF] at h
    split at h
    · rename_i id off len hx
      obtain ⟨h1, h2, rfl, rfl, h5⟩ := h
      have hxv := ev_VR he x
      rw [hx] at hxv
      split at h1
      case h_2 => exact h1.elim
      rename_i el hs
      split at h5
      case h_2 => exact h5.elim
      rename_i n hB
      generalize hu : a.eval x = u at hxv
      cases hxv with
      | @os _ _ _ _ cap hn0 hvv hcap hl =>
        have hb := hr.ok id hn0
        rw [hB] at hb
        obtain ⟨v, hc, hvr⟩ := RowsOk.rowAt (show RowsOk w A ι 0 (ι id) 1 _ from hb) hvv (r := 0) rfl 0 _ rfl
        cases hvr
        refine wp_of_ran (s := convert s d (a.eval x)) (by simp [execOp]) ⟨_, w, ?_, Got.same hr he .lit h5⟩ hn
        have hld := run_loadCells (P := P) w ⟨(ι id).blk, 0 * (ι id).wd, none⟩ 1 (fun _ => .int .u8 n) (fun j hj => by
          have : j = 0 := by omega
          subst this
          simpa [Addr.add] using hc)
        simp only [Sem.run_bind, hu, convert, run_underlying hs, run_underlying h2, Result.andThen_ok, run_underlying h1, Conv.bytesToString, hld]
        simp
    · have h' : opA P (.convert s d x) e σ K := h
      exact opA_sound (o := ⟨dst, .convert s d x, type, pos, after, guard⟩) hr he h' hn
  · have h' : opA P op e σ K := by
      cases op
      case convert s d x => exact absurd ⟨s, d, x, rfl⟩ hv
      case call c =>
        obtain ⟨callee, args, ts⟩ := c
        cases callee with
        | value f => exact absurd ⟨f, args, ts, rfl⟩ hc
        | builtin b => exact h
        | invoke r m => exact h
      all_goals exact h
    exact opA_sound (o := ⟨dst, op, type, pos, after, guard⟩) hr he h' hn

theorem opsF_sound {N : Nat} {ops : Array Oper} (hd : dstB N ops = true) {Qw : Exit → Act → World → Prop} {Q : Env → St → Prop} {w0 : World} {A0 : Nat → Prop} {ι0 : Owns} {σ0 : St} (hQ : ∀ a w, Post N w0 A0 ι0 σ0 Q a w → Qw .normal a w) :
    ∀ (l : List Oper) (a : Act) (w : World) (A : Nat → Prop) (ι : Owns) (e : Env) (σ : St), (∀ o ∈ l, o ∈ ops.toList) → a.tmps.size = N → Rel a w A ι e σ → Ext w0 A0 ι0 σ0 w A ι σ → opsF P ops l Q e σ → wpList P ops Qw l a w
  | [], a, w, A, ι, e, σ, _, hN, hr, hx, h => by
    simp only [opsF] at h
    exact hQ a w ⟨e, σ, A, ι, hN, hr, hx, h⟩
  | o :: l, a, w, A, ι, e, σ, hl, hN, hr, hx, h => by
    have hdo : ∀ i, o.dst = some i → i < a.tmps.size := fun i hi => by rw [hN]; exact dstB_spec hd (hl o (by simp)) i hi
    have go : opF P o.op e σ (fun av e' σ' => opsF P ops l Q (putE e' o.dst av) σ') → o.wp P a w (wpList P ops Qw l) Qw := fun h =>
      opF_sound hr.2.1 hr.2.2 h fun v w' hg => by
        obtain ⟨A', ι', σ', e', av, h1, h2, h3⟩ := hg.rel hr hdo
        exact opsF_sound hd hQ l _ _ _ _ _ _ (fun o ho => hl o (by simp [ho])) (by rw [put_size]; exact hN) h1 (hx.trans h2) h3
    have skip : opsF P ops l Q (putE e o.dst (.lit undef)) σ → wpList P ops Qw l (a.put o.dst undef) w := fun h =>
      opsF_sound hd hQ l _ _ _ _ _ _ (fun o ho => hl o (by simp [ho])) (by rw [put_size]; exact hN) (hr.put hdo .lit) hx h
    simp only [opsF] at h
    unfold wpList
    cases hg : o.guard with
    | none =>
      rw [hg] at h
      have : Region.wanted o (yielded ops a.tmps) = true := by simp [Region.wanted, hg]
      rw [if_pos this]
      exact .inl (go h)
    | some gw =>
      obtain ⟨g, want⟩ := gw
      rw [hg] at h
      simp only at h
      unfold gsl at h
      cases hs : (ops[g]?).bind (·.dst) with
      | none => simp [hs] at h
      | some d =>
        simp only [hs] at h
        have hvd := hr.2.2 d
        have hwanted : Region.wanted o (yielded ops a.tmps) = ((match a.tmps[d]? with | some (.bool b) => some b | _ => none) == some want) := by
          simp only [Region.wanted, hg, yielded, hs, Option.bind_some]
          rfl
        split at h
        · rename_i b hed
          rw [hed] at hvd
          generalize hv : a.tmps.getD d undef = v at hvd
          cases hvd
          have hget : a.tmps[d]? = some (.bool b) := by
            rw [Array.getD_eq_getD_getElem?] at hv
            cases hq : a.tmps[d]? with
            | none => rw [hq] at hv; simp [undef] at hv
            | some u => rw [hq] at hv; simp at hv; rw [hv]
          rw [hwanted, hget]
          by_cases hb : b = want
          · subst hb
            rw [if_pos (by simp)]
            exact .inl (go (h.1 rfl))
          · rw [if_neg (by simpa using hb)]
            exact skip (h.2 (by cases b <;> cases want <;> simp_all))
        · rename_i xs hed
          rw [hed] at hvd
          generalize hv : a.tmps.getD d undef = v at hvd
          cases hvd
          have hnone : (match a.tmps[d]? with | some (.bool b) => some b | _ => none) = none := by
            rw [Array.getD_eq_getD_getElem?] at hv
            cases hq : a.tmps[d]? with
            | none => rfl
            | some u => rw [hq] at hv; simp at hv; rw [hv]
          rw [hwanted, hnone]
          rw [if_neg (by simp)]
          exact skip h
        · exact h.elim

theorem Sat.regionF {id : Nat} {ops : Array Oper} (hd : dstB N ops = true) (h : opsF P ops ops.toList (Q .normal) e σ) : Sat P N (.region id ops false) Q e σ := fun a w A ι hN hr =>
  wp_region_list (opsF_sound hd (fun _ _ h => h) ops.toList a w A ι e σ (fun _ h => h) hN hr (Ext.refl _ _ _ _) h)

theorem callF.plain {g : Nat} {caps args : List AV} (h : ACall P g ((args ++ caps).map (nlV 3)) e σ K) : callF P (.clo g caps) args e σ K := .inl h
theorem callF.fz (F : List Nat) {g : Nat} {caps args : List AV} (h : ACall P g (((args ++ caps).map (fzV F σ 6)).map (nlV 3)) (fzE F σ e) (fzS F σ) K) : callF P (.clo g caps) args e σ K := .inr ⟨F, h⟩
end
end Go.Proofs.Qqz
namespace Go.Proofs.Qqz
open Go

/-- Every slot that the code fills exists. -/
def dstC (N : Nat) : Code → Bool
  | .region _ ops _ => dstB N ops
  | .seq x y => dstC N x && dstC N y
  | .cond _ x y => dstC N x && dstC N y
  | .block _ x => dstC N x
  | .loop x => dstC N x
  | _ => true

/-- Code walked along its text; loops and drawn regions stay as they are. -/
def W (P : Program) (N : Nat) : Code → (Exit → Env → St → Prop) → Env → St → Prop
  | .skip, Q => Q .normal
  | .exit i, Q => Q (.exit i)
  | .ret, Q => Q .ret
  | .seq x y, Q => W P N x (thenQ (W P N y Q) Q)
  | .cond v x y, Q => fun e σ =>
    match evA e v with
    | .lit (.bool t) => (t = true → W P N x Q e σ) ∧ (t = false → W P N y Q e σ)
    | _ => False
  | .block i x, Q => W P N x (blockQ i Q)
  | .region _ ops false, Q => opsF P ops ops.toList (Q .normal)
  | c, Q => Sat P N c Q

theorem W.sat {P : Program} {N : Nat} : ∀ (c : Code) (Q : Exit → Env → St → Prop) (e : Env) (σ : St), dstC N c = true → W P N c Q e σ → Sat P N c Q e σ
  | .skip, Q, e, σ, _, h => Sat.skip h
  | .exit i, Q, e, σ, _, h => Sat.exit h
  | .ret, Q, e, σ, _, h => Sat.ret h
  | .seq x y, Q, e, σ, hd, h => by
    simp only [dstC, Bool.and_eq_true] at hd
    refine Sat.seq (Sat.mono (W.sat x _ e σ hd.1 h) fun x e σ hq => ?_)
    cases x with
    | normal => exact W.sat y Q e σ hd.2 hq
    | _ => exact hq
  | .cond v x y, Q, e, σ, hd, h => by
    simp only [dstC, Bool.and_eq_true] at hd
    refine Sat.cond ?_
    simp only [W] at h
    unfold condA
    split at h
    · rename_i t hv
      rw [hv]
      exact ⟨fun ht => W.sat x Q e σ hd.1 (h.1 ht), fun ht => W.sat y Q e σ hd.2 (h.2 ht)⟩
    · exact h.elim
  | .block i x, Q, e, σ, hd, h => Sat.block (W.sat x _ e σ hd h)
  | .region id ops false, Q, e, σ, hd, h => Sat.regionF hd h
  | .region id ops true, Q, e, σ, hd, h => h
  | .loop c, Q, e, σ, hd, h => h
  | .scope _, Q, e, σ, hd, h => h
  | .rangeFunc _ _ _ _, Q, e, σ, hd, h => h
  | .label _, Q, e, σ, hd, h => h
  | .goto _, Q, e, σ, hd, h => h
  | .refuse _, Q, e, σ, hd, h => h

section
variable {P : Program} {w : World} {A : Nat → Prop} {ι : Owns} {σ : St} {e : Env} {K : KT} {a : Act} {N : Nat} {Q : Exit → Env → St → Prop} {c : Code}

theorem Sat.loopW {T : Type} (I : T → Env → St → Prop) (μ : T → Nat) (t : T) (hd : dstC N c = true) (h0 : I t e σ) (round : ∀ t e σ, I t e σ → W P N c (loopQ I μ t Q) e σ) : Sat P N (.loop c) Q e σ :=
  Sat.loop I μ t h0 fun t e σ h => W.sat c _ e σ hd (round t e σ h)

end

/-- How deep what is handed back is looked into. -/
inductive Fu where
  | z
  | s (u : Fu)
def Fu.n : Fu → Nat
  | .z => 0
  | .s u => u.n + 1
def frzU (m : Nat) (σ : St) (u : Fu) (top : Bool) (x : AV) : AV := frz m σ u.n top x
def Fu.five : Fu := .s (.s (.s (.s (.s (.s .z)))))

section
variable {P : Program} {w : World} {A : Nat → Prop} {ι : Owns} {σ : St} {e : Env} {K : KT} {a : Act} {N : Nat} {Q : Exit → Env → St → Prop} {c : Code}

/-- A function that hands back data: its contract, from the walk of its body. -/
theorem ACall.pureW {f : FuncId} {fn : Func} {args : List AV} {rs : List ResultVar} (hf : P.funcs[f]? = some fn) (hb : fn.body = some c) (hN : fn.ntmps = N) (hrs : fn.results = rs.toArray) (hn : (fn.name == "runtime.NumGoroutine") = false) (hargs : Nat.ble args.length N = true) (hd : dstC N c = true)
    (h : W P N c (retQ P rs fun v σ' => Old σ σ' ∧ K (nlV 3 (frzU σ.n σ' (.s (.s (.s (.s (.s (.s .z)))))) true v)) e σ) (initE args) σ) : ACall P f args e σ K :=
  ACall.pureK 6 hf hb hN hrs hn hargs (W.sat _ _ _ _ hd h)

theorem ACall.eq_args {f : FuncId} {l l' : List AV} (hl : l = l') (h : ACall P f l' e σ K) : ACall P f l e σ K := hl ▸ h

/-- What the call made counts as data from here on. -/
theorem ACall.close {f : FuncId} {args : List AV} (h : ACall P f args e σ (fun v _ σ' => Old σ σ' ∧ K (nlV 3 (frzU σ.n σ' (.s (.s (.s (.s (.s (.s .z)))))) true v)) e σ)) : ACall P f args e σ K := by
  refine ⟨h.1, fun w A ι vs hr hvs => (h.2 w A ι vs hr hvs).mono ?_⟩
  rintro en w' ⟨v, h1, A', ι', σ', av, g1, g2, g4, ho, hK⟩
  obtain ⟨r1, r2⟩ := hr.leave g1 g2 ho
  exact ⟨v, h1, _, ι', σ, _, r1, r2, nlV_VR 3 _ _ (by simpa [frzU, Fu.n] using frz_VR g1 ho.1 6 true v av g4), hK⟩

theorem ACall.bareW {f : FuncId} {fn : Func} {args : List AV} {rs : List ResultVar} (hf : P.funcs[f]? = some fn) (hb : fn.body = some c) (hN : fn.ntmps = N) (hrs : fn.results = rs.toArray) (hn : (fn.name == "runtime.NumGoroutine") = false) (hargs : Nat.ble args.length N = true) (hd : dstC N c = true)
    (h : W P N c (retQ P rs fun v σ' => K v e σ') (initE args) σ) : ACall P f args e σ K :=
  ACall.bare hf hb hN hrs hn hargs (W.sat _ _ _ _ hd h)
end

section
variable (m : Nat) (σ σ' : St) (u : Fu) (top : Bool)
@[go_sem] theorem frzU_lit (v : Value) : frzU m σ (.s u) top (.lit v) = .lit v := rfl
@[go_sem] theorem frzU_ps (l : List (List AV)) : frzU m σ (.s u) top (.ps l) = .ps l := rfl
@[go_sem] theorem frzU_pa (l : List AV) (c : Nat) : frzU m σ (.s u) top (.pa l c) = .pa l c := rfl
@[go_sem] theorem frzU_any : frzU m σ (.s u) top .any = .any := rfl
@[go_sem] theorem frzU_agg (l : List AV) : frzU m σ (.s u) top (.agg l) = .agg (l.map (frzU m σ u top)) := rfl
@[go_sem] theorem frzU_tup (l : List AV) : frzU m σ (.s u) top (.tup l) = .tup (l.map (frzU m σ u top)) := rfl
@[go_sem] theorem frzU_clo (f : Nat) (l : List AV) : frzU m σ (.s u) top (.clo f l) = .clo f (l.map (frzU m σ u top)) := rfl
def frzOs (m : Nat) (σ : St) (u : Fu) (B : Blk) (off len : Nat) : AV :=
  match B with
  | .flat _ rows => if off + len ≤ rows.length then .ps ((rows.drop off).take len) else .any
  | .deep _ rows => if off + len ≤ rows.length then .ps (((rows.drop off).take len).map fun row => row.map (frzU m σ u false)) else .any
  | .dead => .any
def frzPt (m : Nat) (σ : St) (u : Fu) (B : Blk) (r c : Nat) : AV :=
  match B with
  | .flat _ rows => if r < rows.length then .pa (rows.getD r []) c else .any
  | .deep _ rows => if r < rows.length then .pa ((rows.getD r []).map (frzU m σ u false)) c else .any
  | .dead => .any
@[go_sem] theorem frzU_os (id off len : Nat) (h : m ≤ id) : frzU m σ (.s u) top (.os id off len) = frzOs m σ u (σ.h id) off len := by
  unfold frzU frzOs
  simp only [Fu.n, frz]
  rw [if_neg (by omega)]
  cases σ.h id <;> rfl
@[go_sem] theorem frzU_os_old (id off len : Nat) (h : id < m) : frzU m σ (.s u) true (.os id off len) = .os id off len := by
  unfold frzU
  simp only [Fu.n, frz]
  rw [if_pos h]; simp
@[go_sem] theorem frzU_ptr (id r c : Nat) (h : m ≤ id) : frzU m σ (.s u) top (.ptr id r c) = frzPt m σ u (σ.h id) r c := by
  unfold frzU frzPt
  simp only [Fu.n, frz]
  rw [if_neg (by omega)]
  cases σ.h id <;> rfl
@[go_sem] theorem frzU_ptr_old (id r c : Nat) (h : id < m) : frzU m σ (.s u) true (.ptr id r c) = .ptr id r c := by
  unfold frzU
  simp only [Fu.n, frz]
  rw [if_pos h]; simp
@[go_sem] theorem frzOs_flat (wd off len : Nat) (rows : List (List AV)) (h : off + len ≤ rows.length) : frzOs m σ u (.flat wd rows) off len = .ps ((rows.drop off).take len) := by simp [frzOs, h]
@[go_sem] theorem frzOs_deep (wd off len : Nat) (rows : List (List AV)) (h : off + len ≤ rows.length) : frzOs m σ u (.deep wd rows) off len = .ps (((rows.drop off).take len).map fun row => row.map (frzU m σ u false)) := by simp [frzOs, h]
@[go_sem] theorem frzPt_flat (wd r c : Nat) (rows : List (List AV)) (h : r < rows.length) : frzPt m σ u (.flat wd rows) r c = .pa (rows.getD r []) c := by simp [frzPt, h]
@[go_sem] theorem frzPt_deep (wd r c : Nat) (rows : List (List AV)) (h : r < rows.length) : frzPt m σ u (.deep wd rows) r c = .pa ((rows.getD r []).map (frzU m σ u false)) c := by simp [frzPt, h]
@[go_sem] theorem Old_self : Old σ σ = True := eq_true (Old.refl σ)
@[go_sem] theorem Old_new (B : Blk) (h : σ.n ≤ σ'.n) : Old σ (σ'.new B) = Old σ σ' := by
  apply propext
  constructor
  · intro hh
    refine ⟨h, fun k hk => ?_⟩
    have := hh.2 k hk
    simp only [St.new] at this
    rwa [if_neg (by omega)] at this
  · intro hh; exact hh.new B
@[go_sem] theorem Old_put (id : Nat) (B : Blk) (h : σ.n ≤ id) : Old σ (σ'.put id B) = Old σ σ' := by
  apply propext
  constructor
  · intro hh
    refine ⟨hh.1, fun k hk => ?_⟩
    have := hh.2 k hk
    simp only [St.put] at this
    rwa [if_neg (by omega)] at this
  · intro hh; exact hh.put h B
end

section
variable (P : Program) (N : Nat) (Q : Exit → Env → St → Prop) (e : Env) (σ : St)
def condW (P : Program) (N : Nat) (v : AV) (x y : Code) (Q : Exit → Env → St → Prop) (e : Env) (σ : St) : Prop :=
  match v with
  | .lit (.bool t) => (t = true → W P N x Q e σ) ∧ (t = false → W P N y Q e σ)
  | _ => False
@[go_sem ↓] theorem W_skip : W P N .skip Q e σ = Q .normal e σ := rfl
@[go_sem ↓] theorem W_exit (i : Nat) : W P N (.exit i) Q e σ = Q (.exit i) e σ := rfl
@[go_sem ↓] theorem W_ret : W P N .ret Q e σ = Q .ret e σ := rfl
@[go_sem ↓] theorem W_seq (x y : Code) : W P N (.seq x y) Q e σ = W P N x (thenQ (W P N y Q) Q) e σ := rfl
@[go_sem ↓] theorem W_cond (v : Operand) (x y : Code) : W P N (.cond v x y) Q e σ = condW P N (evA e v) x y Q e σ := rfl
@[go_sem ↓] theorem W_block (i : Nat) (x : Code) : W P N (.block i x) Q e σ = W P N x (blockQ i Q) e σ := rfl
@[go_sem ↓] theorem W_region (id : Nat) (l : List Oper) : W P N (.region id ⟨l⟩ false) Q e σ = opsF P ⟨l⟩ l (Q .normal) e σ := rfl
@[go_sem ↓] theorem W_draw (id : Nat) (ops : Array Oper) : W P N (.region id ops true) Q e σ = Sat P N (.region id ops true) Q e σ := rfl
@[go_sem ↓] theorem W_loop (c : Code) : W P N (.loop c) Q e σ = Sat P N (.loop c) Q e σ := rfl
@[go_sem] theorem condW_t (x y : Code) : condW P N (.lit (.bool true)) x y Q e σ = W P N x Q e σ := by simp [condW]
@[go_sem] theorem condW_f (x y : Code) : condW P N (.lit (.bool false)) x y Q e σ = W P N y Q e σ := by simp [condW]
theorem W_id (c : Code) : W P N c Q e σ = W P N c Q e σ := rfl
theorem condW_id (v v' : AV) (x y : Code) (h : v = v') : condW P N v x y Q e σ = condW P N v' x y Q e σ := by rw [h]
attribute [congr] W_id condW_id
end
end Go.Proofs.Qqz
