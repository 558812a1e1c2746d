/- Blocks of the call's own are given up for writing: from there on they count as data. -/
import Derived.Test.YtanoekhdoelkbaaGreatDraw
set_option linter.unusedSimpArgs false
set_option linter.unusedVariables false
namespace Go.Proofs.Qqz
open Go

/-- References to the blocks of F, turned into data. -/
def fzV (F : List Nat) (σ : St) : Nat → AV → AV
  | 0, _ => .any
  | k + 1, x =>
    match x with
    | .os id off len => if F.contains id = true then
        (match σ.h id with
        | .flat _ rows => if off + len ≤ rows.length then .ps ((rows.drop off).take len) else .any
        | _ => .any) else .os id off len
    | .ptr id r c => if F.contains id = true then
        (match σ.h id with
        | .flat _ rows => if r < rows.length then .pa (rows.getD r []) c else .any
        | _ => .any) else .ptr id r c
    | .agg l => .agg (l.map (fzV F σ k))
    | .tup l => .tup (l.map (fzV F σ k))
    | .clo g l => .clo g (l.map (fzV F σ k))
    | x => x

def fzS (F : List Nat) (σ : St) : St := ⟨σ.n, fun id => if F.contains id = true then .dead else σ.h id⟩
def fzE (F : List Nat) (σ : St) (e : Env) : Env := fun i => fzV F σ 6 (e i)

section
variable {P : Program} {w : World} {A : Nat → Prop} {ι : Owns} {σ : St} {e : Env} {K : KT} {a : Act} {N : Nat} {Q : Exit → Env → St → Prop} {c : Code} {F : List Nat}

/-- The blocks of data, with those of F. -/
def Afz (A : Nat → Prop) (ι : Owns) (σ : St) (F : List Nat) : Nat → Prop := fun b => A b ∨ ∃ id, id ∈ F ∧ id < σ.n ∧ (σ.h id).live = true ∧ (ι id).virt = false ∧ (ι id).blk = b

theorem fzV_VR (hr : Real w A ι σ) : ∀ (k : Nat) (v : Value) (x : AV), VR w A ι σ.n v x → VR w (Afz A ι σ F) ι σ.n v (fzV F σ k x)
  | 0, _, _, _ => .any
  | k + 1, v, x, h => by
    have ih : ∀ v x, VR w A ι σ.n v x → VR w (Afz A ι σ F) ι σ.n v (fzV F σ k x) := fun v x h => fzV_VR hr k v x h
    have up : ∀ {n v x}, VR w A ι n v x → VR w (Afz A ι σ F) ι n v x := fun h => h.mono (Nat.le_refl _) (fun _ h => .inl h) (fun _ _ => rfl) (fun _ _ => rfl)
    have hA : ∀ id B, id < σ.n → F.contains id = true → (ι id).virt = false → σ.h id = B → B.live = true → Afz A ι σ F (ι id).blk := fun id B h0 h1 hv h2 h3 => .inr ⟨id, by simpa using h1, h0, by rw [h2]; exact h3, hv, rfl⟩
    cases h with
    | any => exact .any
    | lit => exact .lit
    | agg vs l hl hel => exact .agg vs _ (by simpa using hl) (map_VR hel ih)
    | tup vs l hl hel => exact .tup vs _ (by simpa using hl) (map_VR hel ih)
    | clo vs l hl hel => exact .clo vs _ (by simpa using hl) (map_VR hel ih)
    | psz => exact .psz
    | ps wd cv h1 h2 h3 h4 h5 => exact up (.ps wd cv h1 h2 h3 h4 h5)
    | pa cv h1 h2 h3 => exact up (.pa cv h1 h2 h3)
    | @os _ id off len cap hn hv hcap hl =>
      simp only [fzV]
      by_cases hid : F.contains id = true
      · rw [if_pos hid]
        have hb := hr.ok id hn
        cases hB : σ.h id with
        | dead => exact .any
        | deep wd rows => exact .any
        | flat wd rows =>
          rw [hB] at hb
          simp only
          split
          · rename_i hle
            have := RowsOk.frzRow (m := σ.n) hb hv (hA id _ hn hid hv hB rfl) (g := fun x => x) (fun v x h => up h) hle hl
            simpa using this
          · exact .any
      · rw [if_neg hid]; exact .os hn hv hcap hl
    | @osz _ id off a hn =>
      simp only [fzV]
      by_cases hid : F.contains id = true
      · rw [if_pos hid]
        cases hB : σ.h id with
        | dead => exact .any
        | deep wd rows => exact .any
        | flat wd rows =>
          simp only
          split
          · simpa using VR.psz
          · exact .any
      · rw [if_neg hid]; exact .osz hn
    | @ptr _ id r c hn hv =>
      simp only [fzV]
      by_cases hid : F.contains id = true
      · rw [if_pos hid]
        have hb := hr.ok id hn
        cases hB : σ.h id with
        | dead => exact .any
        | deep wd rows => exact .any
        | flat wd rows =>
          rw [hB] at hb
          simp only
          split
          · rename_i hlt
            have hrow : rows[r]? = some (rows.getD r []) := by simp [List.getD, List.getElem?_eq_getElem hlt]
            have hat := RowsOk.rowAt hb hv hrow
            have hex : ∀ j, ∃ v, ∀ a, (rows.getD r [])[j]? = some a → w.cell? ⟨(ι id).blk, r * (ι id).wd + j, none⟩ = some v ∧ VR w A ι 0 v a := by
              intro j
              cases hj : (rows.getD r [])[j]? with
              | none => exact ⟨undef, nofun⟩
              | some a =>
                obtain ⟨v, h1, h2⟩ := hat j a hj
                exact ⟨v, fun a' h => by cases h; exact ⟨h1, h2⟩⟩
            exact .pa (fun j => (hex j).choose) (hA id _ hn hid hv hB rfl) (fun j a ha => ((hex j).choose_spec a ha).1) (fun j a ha => up ((hex j).choose_spec a ha).2)
          · exact .any
      · rw [if_neg hid]; exact .ptr hn hv

theorem Real.fz (hr : Real w A ι σ) : Real w (Afz A ι σ F) ι (fzS F σ) ∧ Ext w A ι σ w (Afz A ι σ F) ι (fzS F σ) := by
  have hsub : ∀ id, (((fzS F σ).h id).live = true → id ∉ F ∧ (fzS F σ).h id = σ.h id) := by
    intro id h
    simp only [fzS] at h ⊢
    by_cases hid : F.contains id = true
    · rw [if_pos hid] at h; cases h
    · rw [if_neg hid] at h ⊢; exact ⟨by simpa using hid, rfl⟩
  have hlive : ∀ b, Live ι (fzS F σ) b → Live ι σ b := by
    rintro b ⟨id, h1, h2, h3, h4⟩
    exact ⟨id, h1, by rw [← (hsub id h2).2]; exact h2, h3, h4⟩
  have hAl : ∀ b, Afz A ι σ F b → A b ∨ Live ι σ b := by
    rintro b (h | ⟨id, _, h2, h3, h4, h5⟩)
    · exact .inl h
    · exact .inr ⟨id, h2, h3, h4, h5⟩
  refine ⟨⟨fun id hid => ?_, fun i j hi hj h1 h2 h3 h4 h5 => ?_, fun b hb hb' => ?_, fun b hb => ?_, fun id hid => ?_⟩, ⟨rfl, rfl, rfl, Nat.le_refl _, Nat.le_refl _, fun _ _ => rfl, fun b hb => .inl hb, fun _ _ _ => rfl, fun b hb => .inl (hlive b hb), fun b hb => (hAl b hb).elim .inl fun h => .inr (.inl h)⟩⟩
  · have := (hr.ok id hid).mono (n' := σ.n) (A' := Afz A ι σ F) (Nat.le_refl _) (fun _ h => .inl h) (fun _ _ => rfl) (fun _ _ => rfl) (fun _ _ => rfl)
    simp only [fzS]
    split
    · trivial
    · exact this
  · exact hr.inj i j hi hj (by rw [← (hsub i h1).2]; exact h1) (by rw [← (hsub j h2).2]; exact h2) h3 h4 h5
  · obtain ⟨k, k1, k2, k3, k4⟩ := hb'
    have hk := hsub k k2
    rcases hb with hb | ⟨id, g0, g1, g2, g3, g4⟩
    · exact hr.away b hb ⟨k, k1, by rw [← hk.2]; exact k2, k3, k4⟩
    · have := hr.inj id k g1 k1 g2 (by rw [← hk.2]; exact k2) g3 k3 (g4.trans k4.symm)
      subst this
      exact hk.1 g0
  · exact (hAl b hb).elim (hr.inA b) hr.live_lt
  · simp only [fzS]
    split
    · rfl
    · exact hr.dead id hid

/-- Blocks are given up for writing. -/
theorem Sat.fz (F : List Nat) (h : Sat P N c Q (fzE F σ e) (fzS F σ)) : Sat P N c Q e σ := fun a w A ι hN hr => by
  obtain ⟨h1, h2, h3⟩ := hr
  obtain ⟨r1, r2⟩ := h2.fz (F := F)
  exact wp_mono (h a w (Afz A ι σ F) ι hN ⟨h1, r1, fun i => fzV_VR h2 6 _ _ (h3 i)⟩) fun x a' w' hp => hp.trans r2


/-- A call of a function value; blocks may be given up for writing ahead of it. -/
def callF (P : Program) (f : AV) (args : List AV) (e : Env) (σ : St) (K : KT) : Prop :=
  match f with
  | .clo g caps => ACall P g ((args ++ caps).map (nlV 3)) e σ K ∨ ∃ F : List Nat, ACall P g (((args ++ caps).map (fzV F σ 6)).map (nlV 3)) (fzE F σ e) (fzS F σ) K
  | _ => False

def opF (P : Program) (op : Op) (e : Env) (σ : St) (K : KT) : Prop :=
  match op with
  | .call ⟨.value f, args, _⟩ => callF P (evA e f) (args.toList.map (evA e)) e σ K
  | op => opA P op e σ K

def opsF (P : Program) (ops : Array Oper) : List Oper → (Env → St → Prop) → Env → St → Prop
  | [], Q, e, σ => Q e σ
  | o :: rest, Q, e, σ =>
    match o.guard with
    | none => opF P o.op e σ (fun av e' σ' => opsF P ops rest Q (putE e' o.dst av) σ')
    | some (g, want) =>
      match gsl ops g with
      | none => False
      | some d =>
        match e d with
        | .lit (.bool b) => (b = want → opF P o.op e σ (fun av e' σ' => opsF P ops rest Q (putE e' o.dst av) σ')) ∧ (b = (!want) → opsF P ops rest Q (putE e o.dst (.lit undef)) σ)
        | .lit (.tuple _) => opsF P ops rest Q (putE e o.dst (.lit undef)) σ
        | _ => False

theorem opF_sound (hr : Real w A ι σ) (he : ∀ i, VR w A ι σ.n (a.tmps.getD i undef) (e i)) {o : Oper} (h : opF P o.op e σ K) {next : Act → World → Prop} {Q : Exit → Act → World → Prop}
    (hn : ∀ v w', Got (fun i => a.tmps.getD i undef) w A ι σ K v w' → next (a.put o.dst v) w') : o.wp P a w next Q := by
  obtain ⟨dst, op, type, pos, after, guard⟩ := o
  by_cases hc : ∃ f args ts, op = .call ⟨.value f, args, ts⟩
  · obtain ⟨f, args, argTypes, rfl⟩ := hc
    simp only [opF, callF] at h
    split at h
    case h_2 => exact h.elim
    rename_i g caps hf
    rcases h with h | ⟨F, ⟨fn, h1, h2, h3⟩, hcall⟩
    · exact opA_sound (o := ⟨dst, .call ⟨.value f, args, argTypes⟩, type, pos, after, guard⟩) hr he (by simp only [opA, callA, callV, hf]; exact h) hn
    obtain ⟨r1, r2⟩ := hr.fz (F := F)
    have hfv := ev_VR he f
    rw [hf] at hfv
    generalize hv : a.eval f = v at hfv
    cases hfv with
    | clo vs l hl hel =>
      have hargs := evs_VRs he args.toList
      have hall : VRs w A ι σ.n (args.toList.map a.eval ++ vs) (args.toList.map (evA e) ++ caps) := ⟨by simp [hl], fun i v b hv hb => by
        rw [List.getElem?_append] at hv hb
        simp only [List.length_map] at hv hb
        split at hv
        · rename_i hlt
          rw [if_pos hlt] at hb
          exact hargs.2 i v b hv hb
        · rename_i hlt
          rw [if_neg hlt] at hb
          exact hel _ v b hv hb⟩
      have hcs := hcall w (Afz A ι σ F) ι (args.toList.map a.eval ++ vs) r1 (nlVs (args := (args.toList.map (evA e) ++ caps).map (fzV F σ 6)) ⟨by simpa using hall.1, fun i v b hv hb => by
        rw [List.getElem?_map] at hb
        obtain ⟨x, hx, rfl⟩ := Option.map_eq_some_iff.1 hb
        exact fzV_VR hr 6 v x (hall.2 i v x hv hx)⟩ 3)
      have hb : fn.body ≠ none := by cases hb : fn.body <;> simp_all
      have h3' : fn.name ≠ "runtime.NumGoroutine" := by simpa using h3
      have hrun : (execOp a.eval ⟨dst, .call ⟨.value f, args, argTypes⟩, type, pos, after, guard⟩).run P w = .ok (.enter g (args.toList.map a.eval ++ vs).toArray) w := by
        have e1 : (args.toList.map a.eval ++ vs).toArray = args.map a.eval ++ vs.toArray := by
          apply Array.ext'; simp
        rw [e1]
        simp [execOp, resolve, Deferred.ofValue, hv, invoke, callFunc, h1, h3', hb]
      unfold Oper.wp
      rw [hrun]
      simp only [Oper.upon_enter]
      refine hcs.mono fun en w' ⟨v, hen, A', ι', σ', av, g1, g2, g3, g4⟩ => ?_
      subst hen
      exact hn v w' ⟨A', ι', σ', fzE F σ e, av, g1, r2.trans g2, fun i => (show VR w (Afz A ι σ F) ι (fzS F σ).n _ _ from fzV_VR hr 6 _ _ (he i)).ext r1 g2, g3, g4⟩
  · have h' : opA P op e σ K := by
      cases op
      case call c =>
        obtain ⟨callee, args, ts⟩ := c
        cases callee with
        | value f => exact absurd ⟨f, args, ts, rfl⟩ hc
        | builtin b => exact h
        | invoke r m => exact h
      all_goals exact h
    exact opA_sound (o := ⟨dst, op, type, pos, after, guard⟩) hr he h' hn

theorem opsF_sound {N : Nat} {ops : Array Oper} (hd : dstB N ops = true) {Qw : Exit → Act → World → Prop} {Q : Env → St → Prop} {w0 : World} {A0 : Nat → Prop} {ι0 : Owns} {σ0 : St} (hQ : ∀ a w, Post N w0 A0 ι0 σ0 Q a w → Qw .normal a w) :
    ∀ (l : List Oper) (a : Act) (w : World) (A : Nat → Prop) (ι : Owns) (e : Env) (σ : St), (∀ o ∈ l, o ∈ ops.toList) → a.tmps.size = N → Rel a w A ι e σ → Ext w0 A0 ι0 σ0 w A ι σ → opsF P ops l Q e σ → wpList P ops Qw l a w
  | [], a, w, A, ι, e, σ, _, hN, hr, hx, h => by
    simp only [opsF] at h
    exact hQ a w ⟨e, σ, A, ι, hN, hr, hx, h⟩
  | o :: l, a, w, A, ι, e, σ, hl, hN, hr, hx, h => by
    have hdo : ∀ i, o.dst = some i → i < a.tmps.size := fun i hi => by rw [hN]; exact dstB_spec hd (hl o (by simp)) i hi
    have go : opF P o.op e σ (fun av e' σ' => opsF P ops l Q (putE e' o.dst av) σ') → o.wp P a w (wpList P ops Qw l) Qw := fun h =>
      opF_sound hr.2.1 hr.2.2 h fun v w' hg => by
        obtain ⟨A', ι', σ', e', av, h1, h2, h3⟩ := hg.rel hr hdo
        exact opsF_sound hd hQ l _ _ _ _ _ _ (fun o ho => hl o (by simp [ho])) (by rw [put_size]; exact hN) h1 (hx.trans h2) h3
    have skip : opsF P ops l Q (putE e o.dst (.lit undef)) σ → wpList P ops Qw l (a.put o.dst undef) w := fun h =>
      opsF_sound hd hQ l _ _ _ _ _ _ (fun o ho => hl o (by simp [ho])) (by rw [put_size]; exact hN) (hr.put hdo .lit) hx h
    simp only [opsF] at h
    unfold wpList
    cases hg : o.guard with
    | none =>
      rw [hg] at h
      have : Region.wanted o (yielded ops a.tmps) = true := by simp [Region.wanted, hg]
      rw [if_pos this]
      exact .inl (go h)
    | some gw =>
      obtain ⟨g, want⟩ := gw
      rw [hg] at h
      simp only at h
      unfold gsl at h
      cases hs : (ops[g]?).bind (·.dst) with
      | none => simp [hs] at h
      | some d =>
        simp only [hs] at h
        have hvd := hr.2.2 d
        have hwanted : Region.wanted o (yielded ops a.tmps) = ((match a.tmps[d]? with | some (.bool b) => some b | _ => none) == some want) := by
          simp only [Region.wanted, hg, yielded, hs, Option.bind_some]
          rfl
        split at h
        · rename_i b hed
          rw [hed] at hvd
          generalize hv : a.tmps.getD d undef = v at hvd
          cases hvd
          have hget : a.tmps[d]? = some (.bool b) := by
            rw [Array.getD_eq_getD_getElem?] at hv
            cases hq : a.tmps[d]? with
            | none => rw [hq] at hv; simp [undef] at hv
            | some u => rw [hq] at hv; simp at hv; rw [hv]
          rw [hwanted, hget]
          by_cases hb : b = want
          · subst hb
            rw [if_pos (by simp)]
            exact .inl (go (h.1 rfl))
          · rw [if_neg (by simpa using hb)]
            exact skip (h.2 (by cases b <;> cases want <;> simp_all))
        · rename_i xs hed
          rw [hed] at hvd
          generalize hv : a.tmps.getD d undef = v at hvd
          cases hvd
          have hnone : (match a.tmps[d]? with | some (.bool b) => some b | _ => none) = none := by
            rw [Array.getD_eq_getD_getElem?] at hv
            cases hq : a.tmps[d]? with
            | none => rfl
            | some u => rw [hq] at hv; simp at hv; rw [hv]
          rw [hwanted, hnone]
          rw [if_neg (by simp)]
          exact skip h
        · exact h.elim

theorem Sat.regionF {id : Nat} {ops : Array Oper} (hd : dstB N ops = true) (h : opsF P ops ops.toList (Q .normal) e σ) : Sat P N (.region id ops false) Q e σ := fun a w A ι hN hr =>
  wp_region_list (opsF_sound hd (fun _ _ h => h) ops.toList a w A ι e σ (fun _ h => h) hN hr (Ext.refl _ _ _ _) h)

theorem callF.plain {g : Nat} {caps args : List AV} (h : ACall P g ((args ++ caps).map (nlV 3)) e σ K) : callF P (.clo g caps) args e σ K := .inl h
theorem callF.fz (F : List Nat) {g : Nat} {caps args : List AV} (h : ACall P g (((args ++ caps).map (fzV F σ 6)).map (nlV 3)) (fzE F σ e) (fzS F σ) K) : callF P (.clo g caps) args e σ K := .inr ⟨F, h⟩
end
end Go.Proofs.Qqz
