/- Regions whose order is left open, with several effects: a tree of the orders in which the effects may come. -/
import Derived.Test.YtanoekhdoelkbaaGreatKd
set_option linter.unusedSimpArgs false
set_option linter.unusedVariables false
namespace Go.Proofs.Qqz
open Go
section
variable {P : Program} {ops : Array Oper} {w : World} {A : Nat → Prop} {ι : Owns} {σ : St} {e e' : Env} {a : Act} {N : Nat}

instance : Inhabited St := ⟨St.empty⟩

/-- The orders of the effects. -/
inductive Tr where
  | leaf
  | one (i : Nat) (t : Tr)
  | two (i : Nat) (t : Tr) (j : Nat) (u : Tr)

def rdyT (ops : Array Oper) (todo : List Nat) (k : Nat) : Bool := match ops[k]? with | some o => todo.all (fun j => !dep o j) | none => false
def okTr (ops : Array Oper) : Tr → List Nat → Bool
  | .leaf, todo => todo.isEmpty
  | .one i t, todo => !todo.isEmpty && todo.all (fun k => k == i || !rdyT ops todo k) && okTr ops t (todo.filter fun k => !(i == k))
  | .two i t j u, todo => !todo.isEmpty && todo.all (fun k => k == i || k == j || !rdyT ops todo k) && okTr ops t (todo.filter fun k => !(i == k)) && okTr ops u (todo.filter fun k => !(j == k))

/-- The effects along each of the orders. -/
def effT (P : Program) (ops : Array Oper) (L : St → Prop) (Q : Env → St → Prop) : Tr → Env → St → Prop
  | .leaf, e, σ => L σ ∧ Q e σ
  | .one i t, e, σ => L σ ∧ opsA P ops ([i].filterMap fun i => ops[i]?) (effT P ops L Q t) e σ
  | .two i t j u, e, σ => L σ ∧ opsA P ops ([i].filterMap fun i => ops[i]?) (effT P ops L Q t) e σ ∧ opsA P ops ([j].filterMap fun i => ops[i]?) (effT P ops L Q u) e σ

theorem effT_old {L : St → Prop} {Q : Env → St → Prop} {t : Tr} (h : effT P ops L Q t e σ) : L σ := by
  cases t with
  | leaf => exact h.1
  | one i t => exact h.1
  | two i t j u => exact h.1

theorem effT_step {L : St → Prop} {Q : Env → St → Prop} {t : Tr} {todo : List Nat} (hk : okTr ops t todo = true) (h : effT P ops L Q t e σ) {i : Nat} (hi : i ∈ todo) {o : Oper} (ho : ops[i]? = some o) (hr : ∀ j, dep o j = true → j ∉ todo) :
    ∃ u, okTr ops u (todo.filter fun k => !(i == k)) = true ∧ G P ops o e σ fun v s => effT P ops L Q u (putE e o.dst v) s := by
  have hrd : rdyT ops todo i = true := by
    unfold rdyT; rw [ho]
    simp only [List.all_eq_true, Bool.not_eq_true']
    intro j hj
    cases hd : dep o j with
    | false => rfl
    | true => exact absurd hj (hr j hd)
  have go : ∀ {k : Nat} {u : Tr}, k = i → opsA P ops ([k].filterMap fun i => ops[i]?) (effT P ops L Q u) e σ → G P ops o e σ fun v s => effT P ops L Q u (putE e o.dst v) s := by
    rintro k u rfl h
    simp only [List.filterMap_cons, ho, List.filterMap_nil] at h
    exact G_of_opsA h
  cases t with
  | leaf =>
    have : todo = [] := by simpa [okTr] using hk
    subst this; cases hi
  | one k t =>
    simp only [okTr, Bool.and_eq_true] at hk
    have h1 := (List.all_eq_true.1 hk.1.2) i hi
    rw [hrd] at h1
    have hik : i = k := by simpa using h1
    subst hik
    exact ⟨t, hk.2, go rfl h.2⟩
  | two k t l u =>
    simp only [okTr, Bool.and_eq_true] at hk
    have h1 := (List.all_eq_true.1 hk.1.1.2) i hi
    rw [hrd] at h1
    have hik : i = k ∨ i = l := by simpa using h1
    rcases hik with rfl | rfl
    · exact ⟨t, hk.1.2, go rfl h.2.1⟩
    · exact ⟨u, hk.2, go rfl h.2.2⟩

theorem effT_end {L : St → Prop} {Q : Env → St → Prop} {t : Tr} (h : effT P ops L Q t e σ) (hk : okTr ops t [] = true) : Q e σ := by
  cases t with
  | leaf => exact h.2
  | one i t => simp [okTr] at hk
  | two i t j u => simp [okTr] at hk

/-- The check of the text. -/
def okE (N : Nat) (ops : Array Oper) (E : List Nat) (t : Tr) : Bool :=
  dstB N ops &&
  ((List.range ops.size).all fun i => match ops[i]? with
    | none => true
    | some o => (o.after.all fun e => !Region.binds .any e || Nat.blt e.on i) &&
      (List.range ops.size).all fun j => match ops[j]? with
        | none => true
        | some oj => match oj.dst with
          | none => true
          | some d => (i == j || o.dst != some d) &&
            (!(o.looksAt ops).contains d || (dep o j && (!midB [] E i || midB [] E j)) || (dep oj i && !(E.contains i && midB [] E j)))) &&
  (E.all fun i => (ops[i]?).isSome) && okTr ops t E

structure OkT (N : Nat) (ops : Array Oper) (E : List Nat) : Prop where
  dst : dstB N ops = true
  low : ∀ (i : Nat) (o : Oper), ops[i]? = some o → ∀ j, dep o j = true → j < i
  uniq : ∀ (i j : Nat) (o oj : Oper) (d : Tmp), ops[i]? = some o → ops[j]? = some oj → o.dst = some d → oj.dst = some d → i = j
  look : ∀ (i j : Nat) (o oj : Oper) (d : Tmp), ops[i]? = some o → ops[j]? = some oj → oj.dst = some d → d ∈ o.looksAt ops → (dep o j = true ∧ (midB [] E i = true → midB [] E j = true)) ∨ (dep oj i = true ∧ ¬ (i ∈ E ∧ midB [] E j = true))
  lateo : ∀ i ∈ E, ∃ o, ops[i]? = some o

theorem okE_spec {E : List Nat} {t : Tr} (h : okE N ops E t = true) : OkT N ops E := by
  simp only [okE, Bool.and_eq_true] at h
  obtain ⟨⟨⟨h1, h2⟩, h4⟩, _⟩ := h
  rw [List.all_eq_true] at h2 h4
  have H : ∀ (i : Nat) (o : Oper), ops[i]? = some o → (∀ e ∈ o.after, Region.binds .any e = true → e.on < i) ∧ ∀ (j : Nat) (oj : Oper) (d : Tmp), ops[j]? = some oj → oj.dst = some d →
      (i = j ∨ o.dst ≠ some d) ∧ (d ∉ o.looksAt ops ∨ (dep o j = true ∧ (midB [] E i = true → midB [] E j = true)) ∨ (dep oj i = true ∧ ¬ (i ∈ E ∧ midB [] E j = true))) := by
    intro i o ho
    have hlt : i < ops.size := (Array.getElem?_eq_some_iff.1 ho).1
    have := h2 i (List.mem_range.2 hlt)
    simp only [ho, Bool.and_eq_true] at this
    obtain ⟨g1, g2⟩ := this
    refine ⟨fun e he hb => ?_, fun j oj d hj hd => ?_⟩
    · rw [Array.all_eq_true_iff_forall_mem] at g1
      have := g1 e he
      simpa [hb] using this
    · rw [List.all_eq_true] at g2
      have := g2 j (List.mem_range.2 (Array.getElem?_eq_some_iff.1 hj).1)
      simp only [hj, hd, Bool.and_eq_true] at this
      refine ⟨by simpa using this.1, ?_⟩
      have h6 := this.2
      by_cases hc : d ∈ o.looksAt ops
      · refine .inr ?_
        have hc' : (o.looksAt ops).contains d = true := by simpa using hc
        rw [hc'] at h6
        simp only [Bool.not_true, Bool.false_or, Bool.or_eq_true, Bool.and_eq_true] at h6
        rcases h6 with ⟨k1, k2⟩ | ⟨k1, k2⟩
        · refine .inl ⟨k1, fun hm => ?_⟩
          rw [hm] at k2; simpa using k2
        · refine .inr ⟨k1, fun hm => ?_⟩
          have : E.contains i = true := by simpa using hm.1
          rw [this, hm.2] at k2; simp at k2
      · exact .inl hc
  refine ⟨h1, fun i o ho j hj => ?_, fun i j o oj d ho hj hd hdj => ?_, fun i j o oj d ho hj hdj hl => ?_, fun i hi => ?_⟩
  · obtain ⟨e, he, rfl, hb⟩ := dep_iff.1 hj
    exact (H i o ho).1 e he hb
  · rcases ((H i o ho).2 j oj d hj hdj).1 with h | h
    · exact h
    · exact absurd hd h
  · rcases ((H i o ho).2 j oj d hj hdj).2 with h | h
    · exact absurd hl h
    · exact h
  · have := h4 i hi
    exact Option.isSome_iff_exists.1 this

theorem Msk.stepT {N : Nat} {E : List Nat} {T : Array Bool} {e0 ef ef' em : Env} {i : Nat} {o : Oper} {v : AV} (hk : OkT N ops E) (h : Msk ops T e0 ef em) (ho : ops[i]? = some o) (hT : i < T.size)
    (h1 : ∀ t, o.dst = some t → ef' t = v) (h2 : ∀ t, o.dst ≠ some t → ef' t = ef t) : Msk ops (T.setIfInBounds i true) e0 ef' (putE em o.dst v) := by
  have hput : ∀ t, o.dst ≠ some t → putE em o.dst v t = em t := by
    intro t ht
    cases hd : o.dst with
    | none => rfl
    | some d =>
      rw [hd] at ht
      simp only [putE, upd]
      rw [if_neg (fun h => ht (by rw [h]))]
  refine ⟨fun t ht => ?_, fun t j oj hj hd hu => ?_⟩
  · by_cases hd : o.dst = some t
    · rw [h1 t hd, hd]; simp [putE, upd]
    · rw [h2 t hd, hput t hd]
      refine h.done t fun j oj hj hdj => ?_
      have := ht j oj hj hdj
      rw [getD_set hT] at this
      by_cases hij : i = j
      · subst hij; rw [ho] at hj; cases hj; exact absurd hdj hd
      · rw [if_neg hij] at this; exact this
  · rw [getD_set hT] at hu
    by_cases hij : i = j
    · rw [if_pos hij] at hu; cases hu
    · rw [if_neg hij] at hu
      rw [hput t fun hd' => hij (hk.uniq i j o oj t ho hj hd' hd)]
      exact h.todo t j oj hj hd hu


/-- The data of a walk. -/
structure WalkT (P : Program) (N : Nat) (ops : Array Oper) (E : List Nat) (Q : Env → St → Prop) (e0 : Env) (L : St → Prop) (vs : List AV) : Prop where
  ok : OkT N ops E
  len : vs.length = ops.toList.length
  mids : ∀ (j : Nat) (o : Oper), ops[j]? = some o → midB [] E j = true → ∀ σ, L σ → G P ops o (envAt [] E ops.toList vs 0 e0 j) σ (fun u s => u = vs.getD j .any ∧ s = σ)

/-- How far the effects have come. -/
def PhT (P : Program) (ops : Array Oper) (E : List Nat) (Q : Env → St → Prop) (L : St → Prop) (T : Array Bool) (ef : Env) (σ : St) : Prop :=
  ∃ t, okTr ops t (E.filter fun i => !T.getD i false) = true ∧ effT P ops L Q t ef σ

structure InvT (P : Program) (N : Nat) (ops : Array Oper) (E : List Nat) (Q : Env → St → Prop) (e0 : Env) (L : St → Prop) (σ0 : St) (vs : List AV) (w0 : World) (A0 : Nat → Prop) (ι0 : Owns) (T : Array Bool) (a : Act) (w : World) (A : Nat → Prop) (ι : Owns) (em ef : Env) (σ : St) : Prop where
  size : T.size = ops.size
  closed : Closed ops T
  hN : a.tmps.size = N
  rel : Rel a w A ι em σ
  ext : Ext w0 A0 ι0 σ0 w A ι σ
  msk : Msk ops T e0 ef em
  ef1 : ∀ (j : Nat) (o : Oper) (t : Tmp), ops[j]? = some o → o.dst = some t → midB [] E j = true → ef t = vs.getD j .any
  ef2 : ∀ (j : Nat) (o : Oper) (t : Tmp), ops[j]? = some o → o.dst = some t → midB [] E j = false → T.getD j false = false → ef t = e0 t
  ef3 : ∀ t, (∀ (j : Nat) (o : Oper), ops[j]? = some o → o.dst ≠ some t) → ef t = e0 t
  ph : PhT P ops E Q L T ef σ

/-- Before an operation, the slots it looks at hold what they should. -/
theorem InvT.looks {E : List Nat} {Q : Env → St → Prop} {e0 : Env} {L : St → Prop} {σ0 : St} {vs : List AV} {w0 A0 ι0} {T : Array Bool} {em ef : Env}
    (W : WalkT P N ops E Q e0 L vs) (I : InvT P N ops E Q e0 L σ0 vs w0 A0 ι0 T a w A ι em ef σ) {i : Nat} {o : Oper} (ho : ops[i]? = some o) (hT : T.getD i false = false) (hr : ∀ j, dep o j = true → T.getD j false = true) (hmid : midB [] E i = true ∨ i ∈ E) :
    ∀ t ∈ o.looksAt ops, em t = (if midB [] E i = true then envAt [] E ops.toList vs 0 e0 i t else ef t) := by
  intro t ht
  have hlow := W.ok.low
  by_cases hex : ∃ (j : Nat) (oj : Oper), ops[j]? = some oj ∧ oj.dst = some t
  · obtain ⟨j, oj, hj, hd⟩ := hex
    have huniq : ∀ (k : Nat) (ok : Oper), ops[k]? = some ok → ok.dst = some t → k = j := fun k ok hk hdk => W.ok.uniq k j ok oj t hk hj hdk hd
    rcases W.ok.look i j o oj t ho hj hd ht with ⟨h1, h2⟩ | ⟨h1, h2⟩
    · have hem : em t = ef t := I.msk.done t fun k ok hk hdk => by rw [huniq k ok hk hdk]; exact hr j h1
      rw [hem]
      split
      · rename_i hm
        have hmj := h2 hm
        rw [I.ef1 j oj t hj hd hmj]
        symm
        exact envAt_at ops.toList vs 0 e0 i j oj W.len (hlow i o ho j h1) (by simpa using hj) (by simpa using hmj) hd fun k ok hne hk hdk => hne (huniq k ok (by simpa using hk) hdk)
      · rfl
    · have hTj : T.getD j false = false := by
        cases hc : T.getD j false with
        | false => rfl
        | true => have := I.closed j oj hj hc i h1; rw [hT] at this; cases this
      rw [I.msk.todo t j oj hj hd hTj]
      have hij := hlow j oj hj i h1
      split
      · rename_i hm
        symm
        refine envAt_other ops.toList vs 0 e0 i fun k ok hk hl _ hdk => ?_
        have := huniq k ok (by simpa using hl) hdk
        omega
      · rename_i hm
        have hl : i ∈ E := hmid.resolve_left hm
        have : midB [] E j = false := by
          cases hc : midB [] E j with
          | false => rfl
          | true => exact absurd ⟨hl, hc⟩ h2
        exact (I.ef2 j oj t hj hd this hTj).symm
  · have hno : ∀ (j : Nat) (oj : Oper), ops[j]? = some oj → oj.dst ≠ some t := fun j oj hj hd => hex ⟨j, oj, hj, hd⟩
    rw [I.msk.done t fun k ok hk hdk => absurd hdk (hno k ok hk)]
    split
    · rw [I.ef3 t hno]
      symm
      exact envAt_other ops.toList vs 0 e0 i fun k ok hk hl _ => hno k ok (by simpa using hl)
    · rfl

/-- When none is ready, all are listed. -/
theorem all_listedT {E : List Nat} {T : Array Bool} (hk : OkT N ops E) (hs : T.size = ops.size) (h : Region.ready .any ops T = []) : ∀ (n i : Nat), i < n → i < ops.size → T.getD i false = true
  | 0, _, h0, _ => absurd h0 (Nat.not_lt_zero _)
  | n + 1, i, hn, hi => by
    cases hc : T.getD i false with
    | true => rfl
    | false =>
      have ho : ops[i]? = some ops[i] := by simp [hi]
      have : i ∈ Region.ready .any ops T := (ready_iff hs).2 ⟨ops[i], ho, hc, fun j hj => by
        have hji := hk.low i _ ho j hj
        exact all_listedT hk hs h n j (by omega) (by omega)⟩
      rw [h] at this
      cases this

end

section
variable {P : Program} {ops : Array Oper} {w : World} {A : Nat → Prop} {ι : Owns} {σ : St} {e e' : Env} {a : Act} {N : Nat}
variable {E : List Nat} {Q : Env → St → Prop} {e0 : Env} {L : St → Prop} {σ0 : St} {vs : List AV} {w0 : World} {A0 : Nat → Prop} {ι0 : Owns}

/-- An operation that is not quiet has run: what the slots stand for. -/
theorem InvT.put {T : Array Bool} {em ef : Env} {σ' : St} {w' : World} {A' : Nat → Prop} {ι' : Owns} {a' : Act} {v : AV} {i : Nat} {o : Oper} (W : WalkT P N ops E Q e0 L vs) (I : InvT P N ops E Q e0 L σ0 vs w0 A0 ι0 T a w A ι em ef σ)
    (ho : ops[i]? = some o) (hr : ∀ j, dep o j = true → T.getD j false = true) (hm : midB [] E i = false) (hN' : a'.tmps.size = N) (hrel : Rel a' w' A' ι' (putE em o.dst v) σ') (hx : Ext w A ι σ w' A' ι' σ')
    (hph : PhT P ops E Q L (T.setIfInBounds i true) (putE ef o.dst v) σ') : InvT P N ops E Q e0 L σ0 vs w0 A0 ι0 (T.setIfInBounds i true) a' w' A' ι' (putE em o.dst v) (putE ef o.dst v) σ' := by
  have hi : i < T.size := by rw [I.size]; exact (Array.getElem?_eq_some_iff.1 ho).1
  have other : ∀ t, o.dst ≠ some t → putE ef o.dst v t = ef t := by
    intro t ht
    cases hd : o.dst with
    | none => rfl
    | some d =>
      rw [hd] at ht
      simp only [putE, upd]
      rw [if_neg (fun h => ht (by rw [h]))]
  refine ⟨by simpa using I.size, closed_set I.size ho I.closed hr, hN', hrel, I.ext.trans hx, I.msk.stepT W.ok ho hi (fun t ht => by rw [ht]; simp [putE, upd]) other, fun j oj t hj hd hmj => ?_, fun j oj t hj hd hmj hT => ?_, fun t ht => ?_, hph⟩
  · rw [other t fun h => ?_]
    · exact I.ef1 j oj t hj hd hmj
    · have := W.ok.uniq i j o oj t ho hj h hd
      subst this; rw [hm] at hmj; cases hmj
  · rw [getD_set hi] at hT
    by_cases hij : i = j
    · rw [if_pos hij] at hT; cases hT
    · rw [if_neg hij] at hT
      rw [other t fun h => hij (W.ok.uniq i j o oj t ho hj h hd)]
      exact I.ef2 j oj t hj hd hmj hT
  · rw [other t (ht i o ho)]
    exact I.ef3 t ht


theorem run_anyT (W : WalkT P N ops E Q e0 L vs) {Qw : Exit → Act → World → Prop} (hQ : ∀ (a : Act) (w : World) (A : Nat → Prop) (ι : Owns) (e' : Env) (σ' : St), a.tmps.size = N → Rel a w A ι e' σ' → Ext w0 A0 ι0 σ0 w A ι σ' → Q e' σ' → Qw .normal a w) :
    ∀ (fuel : Nat) (T : Array Bool) (a : Act) (w : World) (A : Nat → Prop) (ι : Owns) (em ef : Env) (σ : St), InvT P N ops E Q e0 L σ0 vs w0 A0 ι0 T a w A ι em ef σ → unl ops T ≤ fuel → wpAny P .any ops Qw fuel T a w := by
  have hfin : ∀ (T : Array Bool) (a : Act) (w : World) (A : Nat → Prop) (ι : Owns) (em ef : Env) (σ : St), InvT P N ops E Q e0 L σ0 vs w0 A0 ι0 T a w A ι em ef σ → (∀ i, i < ops.size → T.getD i false = true) → Q em σ := by
    intro T a w A ι em ef σ I hall
    have hem : em = ef := by
      funext t
      exact I.msk.done t fun j o hj _ => hall j (Array.getElem?_eq_some_iff.1 hj).1
    subst hem
    obtain ⟨t, h1, h3⟩ := I.ph
    have hnil : (E.filter fun i => !T.getD i false) = [] := by
      rw [List.filter_eq_nil_iff]
      intro i hi
      obtain ⟨o, ho⟩ := W.ok.lateo i hi
      simp [hall i (Array.getElem?_eq_some_iff.1 ho).1]
    rw [hnil] at h1
    exact effT_end h3 h1
  intro fuel
  induction fuel with
  | zero =>
    intro T a w A ι em ef σ I hf
    have hall : ∀ i, i < ops.size → T.getD i false = true := fun i hi => by
      cases hc : T.getD i false with
      | true => rfl
      | false => have := unl_set I.size hi hc; omega
    refine ⟨?_, hQ a w A ι em σ I.hN I.rel I.ext (hfin T a w A ι em ef σ I hall)⟩
    rw [List.eq_nil_iff_forall_not_mem]
    intro i hi
    obtain ⟨o, ho, h1, _⟩ := (ready_iff I.size).1 hi
    rw [hall i (Array.getElem?_eq_some_iff.1 ho).1] at h1
    cases h1
  | succ fuel ih =>
    intro T a w A ι em ef σ I hf
    refine ⟨fun hnil => hQ a w A ι em σ I.hN I.rel I.ext (hfin T a w A ι em ef σ I fun i hi => all_listedT W.ok I.size hnil (i + 1) i (by omega) hi), fun i hi => ?_⟩
    obtain ⟨o, ho, hT, hr⟩ := (ready_iff I.size).1 hi
    have hlt : i < ops.size := (Array.getElem?_eq_some_iff.1 ho).1
    have hiT : i < T.size := by rw [I.size]; exact hlt
    have hfu : unl ops (T.setIfInBounds i true) ≤ fuel := by have := unl_set I.size hlt hT; omega
    have hdst : ∀ d, o.dst = some d → d < N := dstB_spec W.ok.dst (by rw [← Array.getElem?_toList] at ho; exact List.mem_of_getElem? ho)
    have hfil : ∀ E' : List Nat, (E'.filter fun k => !(T.setIfInBounds i true).getD k false) = (E'.filter fun k => !T.getD k false).filter fun k => !(i == k) := by
      intro E'
      rw [List.filter_filter]
      congr 1
      funext k
      rw [getD_set hiT]
      by_cases h : i = k
      · simp [h]
      · simp [h]
    by_cases hm : midB [] E i = true
    · have hq : G P ops o (envAt [] E ops.toList vs 0 e0 i) σ (fun u s => u = vs.getD i .any ∧ s = σ) := by
        obtain ⟨t, _, h3⟩ := I.ph
        exact W.mids i o ho hm σ (effT_old h3)
      have hlook := I.looks W ho hT hr (.inl hm)
      simp only [hm, if_true] at hlook
      refine wpOp_of_G ho I.hN hdst I.rel (G_env (fun t ht => (hlook t ht).symm) hq) ?_
      rintro v a' w' A' ι' σ' g1 g2 g3 ⟨rfl, rfl⟩
      refine ih _ _ _ A' ι' _ ef σ' ⟨by simpa using I.size, closed_set I.size ho I.closed hr, g1, g2, I.ext.trans g3, I.msk.stepT W.ok ho hiT (fun t ht => I.ef1 i o t ho ht hm) (fun _ _ => rfl), I.ef1, fun j oj t hj hd hmj hTj => ?_, I.ef3, ?_⟩ hfu
      · rw [getD_set hiT] at hTj
        by_cases hij : i = j
        · rw [if_pos hij] at hTj; cases hTj
        · rw [if_neg hij] at hTj; exact I.ef2 j oj t hj hd hmj hTj
      · obtain ⟨t, h1, h3⟩ := I.ph
        refine ⟨t, ?_, h3⟩
        rw [hfil]
        have : ((E.filter fun k => !T.getD k false).filter fun k => !(i == k)) = E.filter fun k => !T.getD k false := by
          rw [List.filter_eq_self]
          intro k hk
          have hkE := (List.mem_filter.1 hk).1
          have : i ≠ k := by rintro rfl; exact absurd hkE (by simpa [midB] using hm)
          simpa using this
        rw [this]; exact h1
    · have hm' : midB [] E i = false := by simpa using hm
      have hE : i ∈ E := by
        have : E.contains i = true := by
          cases hc : E.contains i with
          | true => rfl
          | false => simp [midB] at hm'; simp [hm'] at hc
        simpa using this
      obtain ⟨t, h1, h3⟩ := I.ph
      obtain ⟨u, k1, k2⟩ := effT_step h1 h3 (i := i) (List.mem_filter.2 ⟨hE, by simp [hT]⟩) ho (fun j hj hmem => by
        have := hr j hj
        have h4 := (List.mem_filter.1 hmem).2
        rw [this] at h4; cases h4)
      have hlook := I.looks W ho hT hr (.inr hE)
      simp only [hm', Bool.false_eq_true, if_false] at hlook
      refine wpOp_of_G ho I.hN hdst I.rel (G_env (fun t ht => (hlook t ht).symm) k2) ?_
      intro v a' w' A' ι' σ' g1 g2 g3 g4
      refine ih _ _ _ A' ι' _ _ _ (I.put W ho hr hm' g1 g2 g3 ⟨u, ?_, g4⟩) hfu
      rw [hfil]; exact k1
end

/-- A region whose order is left open, from its quiet operations in the text's order and the tree of its effects. -/
theorem Sat.drawnL {P : Program} {ops : Array Oper} {N : Nat} {e : Env} {σ : St} {id : Nat} (L : St → Prop) (E : List Nat) (t : Tr) {Q : Exit → Env → St → Prop} (hm : P.follows .mixedOrders = true) (hB : okE N ops E t = true)
    (h : midA P ops [] E L 0 ops.toList (fun eM => effT P ops L (Q .normal) t eM σ) e) : Sat P N (.region id ops true) Q e σ := fun a w A ι hN hr => by
  obtain ⟨vs, g1, g2, g3⟩ := midA_vals ops.toList 0 e h
  have ok := okE_spec hB
  have ht : okTr ops t E = true := by
    simp only [okE, Bool.and_eq_true] at hB; exact hB.2
  have W : WalkT P N ops E (Q .normal) e L vs := ⟨ok, g1, fun j o hj hmj σ' hO => g2 j o (by simpa using hj) (by simpa using hmj) σ' hO⟩
  have hr' : Rel a { w with drawn := w.drawn + 1 } A ι e σ := by
    obtain ⟨h1, h2, h3⟩ := hr
    refine ⟨h1, ?_, fun i => (h3 i).mono (Nat.le_refl _) (fun _ h => h) (fun _ _ => rfl) (fun _ _ => rfl)⟩
    refine ⟨fun id hid => ?_, h2.inj, h2.away, h2.inA, h2.dead⟩
    exact (h2.ok id hid).mono (Nat.le_refl _) (fun _ h => h) (fun _ _ => rfl) (fun _ _ => rfl) (fun _ _ => rfl)
  have hx' : Ext w A ι σ { w with drawn := w.drawn + 1 } A ι σ := ⟨rfl, rfl, rfl, Nat.le_refl _, Nat.le_refl _, fun _ _ => rfl, fun _ h => h, fun _ _ _ => rfl, fun _ h => .inl h, fun _ h => .inl h⟩
  refine wp_region_any hm (run_anyT (w0 := w) (A0 := A) (ι0 := ι) W (fun a' w' A' ι' e' σ' k1 k2 k3 k4 => ⟨e', σ', A', ι', k1, k2, k3, k4⟩) ops.size (Array.replicate ops.size false) a _ A ι e (envAt [] E ops.toList vs 0 e ops.toList.length) σ ?_ ?_)
  · have hfalse : ∀ i, (Array.replicate ops.size false).getD i false = false := fun i => by simp [Array.getElem?_replicate]; split <;> rfl
    refine ⟨by simp, fun i o _ h => (by rw [hfalse] at h; cases h), hN, hr', hx', ⟨fun t ht => ?_, fun t j o hj hd _ => rfl⟩, fun j o t hj hd hmj => ?_, fun j o t hj hd hmj _ => ?_, fun t ht => ?_, t, ?_, g3⟩
    · symm
      exact envAt_other ops.toList vs 0 e _ fun k o _ hk _ hd => by have := ht k o (by simpa using hk) hd; rw [hfalse] at this; cases this
    · have hlt := (Array.getElem?_eq_some_iff.1 hj).1
      exact envAt_at ops.toList vs 0 e _ j o g1 (by simpa using hlt) (by simpa using hj) (by simpa using hmj) hd fun k ok' hne hk hdk => hne (ok.uniq k j ok' o t (by simpa using hk) hj hdk hd)
    · exact envAt_other ops.toList vs 0 e _ fun k ok' _ hk hmk hdk => by
        have := ok.uniq k j ok' o t (by simpa using hk) hj hdk hd
        subst this
        rw [Nat.zero_add, hmj] at hmk; cases hmk
    · exact envAt_other ops.toList vs 0 e _ fun k o _ hk _ => ht k o (by simpa using hk)
    · have : (E.filter fun i => !(Array.replicate ops.size false).getD i false) = E := by
        rw [List.filter_eq_self]; intro k _; rw [hfalse]; rfl
      rw [this]; exact ht
  · unfold unl
    exact Nat.le_trans (List.countP_le_length) (by simp)

theorem Sat.drawnT {P : Program} {ops : Array Oper} {N : Nat} {e : Env} {σ : St} {id : Nat} (E : List Nat) (t : Tr) {Q : Exit → Env → St → Prop} (hm : P.follows .mixedOrders = true) (hB : okE N ops E t = true)
    (h : midA P ops [] E (Old σ) 0 ops.toList (fun eM => effT P ops (Old σ) (Q .normal) t eM σ) e) : Sat P N (.region id ops true) Q e σ := Sat.drawnL (Old σ) E t hm hB h
/-- Where nothing quiet depends on the state. -/
theorem Sat.drawnU {P : Program} {ops : Array Oper} {N : Nat} {e : Env} {σ : St} {id : Nat} (E : List Nat) (t : Tr) {Q : Exit → Env → St → Prop} (hm : P.follows .mixedOrders = true) (hB : okE N ops E t = true)
    (h : midA P ops [] E (fun _ => True) 0 ops.toList (fun eM => effT P ops (fun _ => True) (Q .normal) t eM σ) e) : Sat P N (.region id ops true) Q e σ := Sat.drawnL (fun _ => True) E t hm hB h

/-- A state that came of another: more blocks, and the old ones kept. -/
def ext (σ : St) (n : Nat) (h : Nat → Blk) : St := ⟨σ.n + n, fun k => if k < σ.n then σ.h k else h k⟩
section
variable (σ : St) (n : Nat) (hh : Nat → Blk)
@[go_sem] theorem ext_n : (ext σ n hh).n = σ.n + n := rfl
@[go_sem] theorem ext_h (k : Nat) (h : k < σ.n) : (ext σ n hh).h k = σ.h k := by simp [ext, h]
theorem Old_ext (σ' : St) : Old σ σ' ↔ ∃ n h, σ' = ext σ n h := by
  constructor
  · intro h
    refine ⟨σ'.n - σ.n, σ'.h, ?_⟩
    obtain ⟨h1, h2⟩ := h
    obtain ⟨n', h'⟩ := σ'
    simp only [ext] at *
    congr 1
    · omega
    · funext k
      split
      · rename_i hk; exact (h2 k hk)
      · rfl
  · rintro ⟨n, h, rfl⟩
    refine ⟨by simp only [ext]; omega, fun k hk => by simp [ext, hk]⟩
end
section
variable (P : Program) (ops : Array Oper) (al late : List Nat) (i : Nat) (rest : List Oper) (R : Env → Prop) (e : Env) (σ : St)
@[go_sem ↓] theorem midN_old (op : Op) (d : Option Tmp) (σ0 : St) : midN P ops al late (Old σ0) i op d rest R e = exQ (fun v => ∀ n h, opA P op e (ext σ0 n h) (qK v (ext σ0 n h))) fun v => midA P ops al late (Old σ0) (i + 1) rest R (putE e d v) := by
  unfold midN
  congr 1
  funext v
  apply propext
  constructor
  · intro h n hh; exact h _ ((Old_ext σ0 _).2 ⟨n, hh, rfl⟩)
  · intro h σ' hO
    obtain ⟨n, hh, rfl⟩ := (Old_ext σ0 _).1 hO
    exact h n hh
@[go_sem ↓] theorem midN_true (op : Op) (d : Option Tmp) : midN P ops al late (fun _ => True) i op d rest R e = exQ (fun v => ∀ s, opA P op e s (qK v s)) fun v => midA P ops al late (fun _ => True) (i + 1) rest R (putE e d v) := by
  unfold midN
  congr 1
  funext v
  apply propext
  exact ⟨fun h s => h s trivial, fun h s _ => h s⟩
@[go_sem] theorem effT_leaf (L : St → Prop) (Q : Env → St → Prop) : effT P ops L Q .leaf e σ = (L σ ∧ Q e σ) := rfl
@[go_sem] theorem effT_one (L : St → Prop) (Q : Env → St → Prop) (i : Nat) (t : Tr) : effT P ops L Q (.one i t) e σ = (L σ ∧ opsA P ops ([i].filterMap fun i => ops[i]?) (effT P ops L Q t) e σ) := rfl
@[go_sem] theorem effT_two (L : St → Prop) (Q : Env → St → Prop) (i j : Nat) (t u : Tr) : effT P ops L Q (.two i t j u) e σ = (L σ ∧ opsA P ops ([i].filterMap fun i => ops[i]?) (effT P ops L Q t) e σ ∧ opsA P ops ([j].filterMap fun i => ops[i]?) (effT P ops L Q u) e σ) := rfl
end
end Go.Proofs.Qqz
