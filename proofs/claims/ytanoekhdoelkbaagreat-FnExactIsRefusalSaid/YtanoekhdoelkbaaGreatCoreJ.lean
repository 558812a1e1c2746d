/- A function's contract from the walk of its body; steps that change the reading alone. -/
import Derived.Test.YtanoekhdoelkbaaGreatCoreI
set_option linter.unusedSimpArgs false
set_option linter.unusedVariables false
namespace Go.Proofs.Qqz
open Go

section
variable {P : Program} {w : World} {A : Nat → Prop} {ι : Owns} {σ : St} {e : Env} {K : KT} {a : Act} {N : Nat} {Q : Exit → Env → St → Prop} {c : Code}

/-- One result variable, run. -/
def resRun (a : Act) (r : ResultVar) : Sem Value := match r with
  | .tmp t => pure (a.tmps.getD t undef)
  | .cell p t => do loadVar t (← asAddr (a.tmps.getD p undef))

theorem resA_sound (hr : Rel a w A ι e σ) : ∀ (rs : List ResultVar) (K : List AV → Prop), resA P rs e σ K → ∃ vs avs, (rs.mapM (resRun a)).run P w = .ok vs w ∧ VRs w A ι σ.n vs avs ∧ K avs
  | [], K, h => ⟨[], [], rfl, ⟨rfl, by simp⟩, h⟩
  | .tmp t :: rest, K, h => by
    obtain ⟨vs, avs, h1, h2, h3⟩ := resA_sound hr rest (fun l => K (e t :: l)) h
    refine ⟨a.tmps.getD t undef :: vs, e t :: avs, ?_, ⟨by simp [h2.1], fun i v b hv hb => ?_⟩, h3⟩
    · simp only [List.mapM_cons, resRun, Sem.run_bind, Sem.run_pure, Result.andThen_ok, h1]
    · cases i with
      | zero => simp only [List.getElem?_cons_zero, Option.some.injEq] at hv hb; subst hv; subst hb; exact hr.2.2 t
      | succ i => simp only [List.getElem?_cons_succ] at hv hb; exact h2.2 i v b hv hb
  | .cell p t :: rest, K, h => by
    simp only [resA] at h
    have hp := hr.2.2 p
    obtain ⟨v, av, h1, h2, h3⟩ := loadA_read (P := P) hr.2.1 hp h
    obtain ⟨vs, avs, g1, g2, g3⟩ := resA_sound hr rest (fun l => K (av :: l)) h3
    refine ⟨v :: vs, av :: avs, ?_, ⟨by simp [g2.1], fun i u b hu hb => ?_⟩, g3⟩
    · have hptr : (do loadVar t (← asAddr (a.tmps.getD p undef)) : Sem Value).run P w = .ok v w := by
        generalize a.tmps.getD p undef = u at h1
        cases u <;> simp [Instr.loadAt, Instr.sureAddr] at h1
        rename_i q
        cases q with
        | none => simp [Instr.sureAddr] at h1
        | some q => simpa [asAddr] using h1
      simp only [List.mapM_cons, resRun]
      rw [Sem.run_bind, hptr]
      simp only [Result.andThen_ok, Sem.run_bind, g1, Sem.run_pure]
    · cases i with
      | zero => simp only [List.getElem?_cons_zero, Option.some.injEq] at hu hb; subst hu; subst hb; exact h2
      | succ i => simp only [List.getElem?_cons_succ] at hu hb; exact g2.2 i u b hu hb

theorem results_sound {fn : Func} {Kv : AV → Prop} (hr : Rel a w A ι e σ) (h : resA P fn.results.toList e σ (oneA Kv)) : ∃ v av, (results fn a.tmps).run P w = .ok v w ∧ VR w A ι σ.n v av ∧ Kv av := by
  obtain ⟨vs, avs, h1, h2, h3⟩ := resA_sound hr _ _ h
  have hm : (fn.results.mapM (resRun a)).run P w = .ok vs.toArray w := by
    rw [Array.mapM_eq_mapM_toList, Sem.run_map, h1]; rfl
  have hres : (results fn a.tmps).run P w = .ok (if h : vs.toArray.size = 1 then vs.toArray[0] else .tuple vs.toArray) w := by
    show ((fn.results.mapM (resRun a)) >>= fun vs => pure (if h : vs.size = 1 then vs[0] else .tuple vs)).run P w = _
    rw [Sem.run_bind, hm]
    rfl
  match vs, avs, h2, h3, hres with
  | [v], [av], h2, h3, hres => exact ⟨v, av, hres, h2.2 0 v av rfl rfl, h3⟩
  | [], [], h2, h3, hres => exact ⟨_, .tup [], hres, .tup [] [] rfl (by simp), h3⟩
  | v :: u :: vs, b :: c :: avs, h2, h3, hres =>
    exact ⟨.tuple (v :: u :: vs).toArray, .tup (b :: c :: avs), by rw [hres]; rfl, .tup _ _ h2.1 h2.2, h3⟩
  | [v], b :: c :: avs, h2, _, _ => exact absurd h2.1 (by simp)
  | [], b :: avs, h2, _, _ => exact absurd h2.1 (by simp)
  | v :: vs, [], h2, _, _ => exact absurd h2.1 (by simp)
  | v :: u :: vs, [b], h2, _, _ => exact absurd h2.1 (by simp)

/-- A function's contract, from the walk of its body. -/
theorem ACall.intro {f : FuncId} {fn : Func} {args : List AV} (hf : P.funcs[f]? = some fn) (hb : fn.body = some c) (hn : (fn.name == "runtime.NumGoroutine") = false) (hargs : args.length ≤ fn.ntmps)
    (h : Sat P fn.ntmps c (retQ P fn.results.toList fun v σ' => K v e σ') (initE args) σ) : ACall P f args e σ K := by
  refine ⟨⟨fn, hf, by rw [hb]; rfl, hn⟩, fun w A ι vs hr hvs => ?_⟩
  have hl : vs.toArray.size = args.length := by simpa using hvs.1
  let a : Act := { tmps := vs.toArray ++ Array.replicate (fn.ntmps - vs.toArray.size) undef, defers := [] }
  have hN : a.tmps.size = fn.ntmps := by
    have := hvs.1
    simp [a]; omega
  have hrel : Rel a w A ι (initE args) σ := by
    refine ⟨rfl, hr, fun i => ?_⟩
    simp only [initE]
    by_cases hi : i < args.length
    · have h1 : args[i]? = some args[i] := List.getElem?_eq_getElem hi
      have h2 : vs[i]? = some (vs[i]'(by have := hvs.1; omega)) := List.getElem?_eq_getElem (by have := hvs.1; omega)
      have h3 : a.tmps.getD i undef = vs[i]'(by have := hvs.1; omega) := by
        rw [Array.getD_eq_getD_getElem?]
        simp only [a]
        rw [Array.getElem?_append_left (by omega)]
        simp [h2]
      rw [h3, List.getD, h1]
      exact hvs.2 i _ _ h2 h1
    · rw [List.getD, List.getElem?_eq_none (by omega)]
      exact .any
  refine calls_of_wp hf hb (wp_mono (h a w A ι hN hrel) fun x a' w' hp => ?_)
  have fin : ∀ e' σ' A' ι', Rel a' w' A' ι' e' σ' → Ext w A ι σ w' A' ι' σ' → resA P fn.results.toList e' σ' (oneA fun v => K v e σ') →
      a'.defers = [] ∧ ∃ v, (results fn a'.tmps).run P w' = .ok v w' ∧ ∃ v', Ending.returned v = Ending.returned v' ∧ ∃ A' ι' σ' av, Real w' A' ι' σ' ∧ Ext w A ι σ w' A' ι' σ' ∧ VR w' A' ι' σ'.n v' av ∧ K av e σ' := by
    intro e' σ' A' ι' hr' hx hres
    obtain ⟨v, av, h1, h2, h3⟩ := results_sound hr' hres
    exact ⟨hr'.1, v, h1, v, rfl, A', ι', σ', av, hr'.2.1, hx, h2, h3⟩
  obtain ⟨e', σ', A', ι', h1, h2, h3, h4⟩ := hp
  cases x with
  | normal => exact fin e' σ' A' ι' h2 h3 h4
  | ret => exact fin e' σ' A' ι' h2 h3 h4
  | _ => exact h4.elim

theorem ACall.mono {f : FuncId} {args : List AV} {K' : KT} (h : ACall P f args e σ K) (hk : ∀ v e' σ', K v e' σ' → K' v e' σ') : ACall P f args e σ K' :=
  ⟨h.1, fun w A ι vs hr hvs => (h.2 w A ι vs hr hvs).mono fun _ _ ⟨v, h1, A', ι', σ', av, g1, g2, g4, g5⟩ => ⟨v, h1, A', ι', σ', av, g1, g2, g4, hk _ _ _ g5⟩⟩

/-- An argument is read in another way. -/
theorem ACall.args {f : FuncId} {args args' : List AV} (h : ACall P f args' e σ K) (hl : args'.length = args.length)
    (hv : ∀ (w : World) (A : Nat → Prop) (ι : Owns), Real w A ι σ → ∀ (i : Nat) (v : Value) (x y : AV), args[i]? = some x → args'[i]? = some y → VR w A ι σ.n v x → VR w A ι σ.n v y) : ACall P f args e σ K :=
  ⟨h.1, fun w A ι vs hr hvs => h.2 w A ι vs hr ⟨by rw [hvs.1, hl], fun i v y h1 h2 => by
    have hi : i < args.length := by rw [← hl]; exact (List.getElem?_eq_some_iff.1 h2).1
    exact hv w A ι hr i v _ y (List.getElem?_eq_getElem hi) h2 (hvs.2 i v _ h1 (List.getElem?_eq_getElem hi))⟩⟩

/-- The empty slice literal reads as no rows. -/
theorem VR.nil_ps {n : Nat} {v : Value} (h : VR w A ι n v (.lit (.slice none 0 0))) : VR w A ι n v (.ps []) := by
  cases h; exact .psz

/-! ### What the call made is handed back as data -/

/-- References to the call's own blocks (from number m on), turned into data; within data no reference stays. -/
def frz (m : Nat) (σ : St) : Nat → Bool → AV → AV
  | 0, _, _ => .any
  | f + 1, top, x =>
    match x with
    | .os id off len => if id < m then (if top = true then .os id off len else .any) else
      match σ.h id with
      | .flat _ rows => if off + len ≤ rows.length then .ps ((rows.drop off).take len) else .any
      | .deep _ rows => if off + len ≤ rows.length then .ps (((rows.drop off).take len).map fun row => row.map (frz m σ f false)) else .any
      | .dead => .any
    | .ptr id r c => if id < m then (if top = true then .ptr id r c else .any) else
      match σ.h id with
      | .flat _ rows => if r < rows.length then .pa (rows.getD r []) c else .any
      | .deep _ rows => if r < rows.length then .pa ((rows.getD r []).map (frz m σ f false)) c else .any
      | .dead => .any
    | .agg l => .agg (l.map (frz m σ f top))
    | .tup l => .tup (l.map (frz m σ f top))
    | .clo g l => .clo g (l.map (frz m σ f top))
    | x => x

/-- What stands below m is as it was. -/
def Old (σ σ' : St) : Prop := σ.n ≤ σ'.n ∧ ∀ k, k < σ.n → σ'.h k = σ.h k

theorem Old.refl (σ : St) : Old σ σ := ⟨Nat.le_refl _, fun _ _ => rfl⟩
theorem Old.new {σ σ' : St} (h : Old σ σ') (B : Blk) : Old σ (σ'.new B) := ⟨by have := h.1; simp [St.new]; omega, fun k hk => by have := h.1; simp only [St.new]; rw [if_neg (by omega)]; exact h.2 k hk⟩
theorem Old.put {σ σ' : St} (h : Old σ σ') {id : Nat} (hid : σ.n ≤ id) (B : Blk) : Old σ (σ'.put id B) := ⟨h.1, fun k hk => by simp only [St.put]; rw [if_neg (by omega)]; exact h.2 k hk⟩
theorem Old.trans {σ σ' σ'' : St} (h : Old σ σ') (k : Old σ' σ'') : Old σ σ'' := ⟨Nat.le_trans h.1 k.1, fun i hi => (k.2 i (Nat.lt_of_lt_of_le hi h.1)).trans (h.2 i hi)⟩

/-- The blocks of data, once the call's own ones from m on count among them. -/
def Aup (A : Nat → Prop) (ι : Owns) (σ : St) (m : Nat) : Nat → Prop := fun b => A b ∨ ∃ id, m ≤ id ∧ id < σ.n ∧ (σ.h id).live = true ∧ (ι id).virt = false ∧ (ι id).blk = b

theorem VR.refs {w A ι n v x} (h : VR w A ι n v x) {m : Nat} (hf : Flat x) : VR w A ι m v x := (h.flat hf).up (Nat.zero_le _)

theorem RowsOk.frzRow {m wd : Nat} {rows : List (List AV)} {o : Own} {n : Nat} (hb : RowsOk w A ι n o wd rows) (hv : o.virt = false) {A' : Nat → Prop} (hA' : A' o.blk) {g : AV → AV} (hg : ∀ v x, VR w A ι n v x → VR w A' ι 0 v (g x)) {off len cap : Nat} (hle : off + len ≤ rows.length) (hcap : len ≤ cap) :
    VR w A' ι m (.slice (some ⟨o.blk, off * o.wd, none⟩) len cap) (.ps (((rows.drop off).take len).map fun row => row.map g)) := by
  have hget : ∀ (k : Nat) (row : List AV), ((rows.drop off).take len)[k]? = some row → rows[off + k]? = some row := fun k row hk => by
    rw [List.getElem?_take] at hk
    split at hk
    · simpa using hk
    · cases hk
  have hl : (((rows.drop off).take len).map fun row => row.map g).length = len := by simp; omega
  -- the cells' values
  have hex : ∀ i j, ∃ v, ∀ row a, rows[off + i]? = some row → row[j]? = some a → w.cell? ⟨o.blk, off * o.wd + (i * wd + j), none⟩ = some v ∧ VR w A ι n v a := by
    intro i j
    by_cases h : ∃ row a, rows[off + i]? = some row ∧ row[j]? = some a
    · obtain ⟨row, a, h1, h2⟩ := h
      obtain ⟨v, h3, h4⟩ := hb.rowAt hv h1 j a h2
      refine ⟨v, fun row' a' g1 g2 => ?_⟩
      rw [h1] at g1; cases g1
      rw [h2] at g2; cases g2
      refine ⟨?_, h4⟩
      rw [hb.1, Nat.add_mul, Nat.add_assoc] at h3
      rw [hb.1]
      exact h3
    · exact ⟨undef, fun row a h1 h2 => absurd ⟨row, a, h1, h2⟩ h⟩
  have hcv := fun i j => (hex i j).choose_spec
  have key : ∀ L : List (List AV), L = (((rows.drop off).take len).map fun row => row.map g) → VR w A' ι m (.slice (some ⟨o.blk, off * o.wd, none⟩) L.length cap) (.ps L) := by
    rintro L rfl
    refine .ps wd (fun i j => (hex i j).choose) (by rw [hl]; exact hcap) hA' (fun i row hi => ?_) (fun i row hi j a ha => ?_) (fun i row hi j a ha => ?_)
    · rw [List.getElem?_map] at hi
      cases hr : ((rows.drop off).take len)[i]? with
      | none => simp [hr] at hi
      | some r => simp [hr] at hi; subst hi; simp; exact hb.2.2.1 _ r (hget i r hr)
    · rw [List.getElem?_map] at hi
      cases hr : ((rows.drop off).take len)[i]? with
      | none => simp [hr] at hi
      | some r =>
        simp only [hr, Option.map_some, Option.some.injEq] at hi
        subst hi
        rw [List.getElem?_map] at ha
        cases hx : r[j]? with
        | none => simp [hx] at ha
        | some x => exact (hcv i j r x (hget i r hr) hx).1
    · rw [List.getElem?_map] at hi
      cases hr : ((rows.drop off).take len)[i]? with
      | none => simp [hr] at hi
      | some r =>
        simp only [hr, Option.map_some, Option.some.injEq] at hi
        subst hi
        rw [List.getElem?_map] at ha
        cases hx : r[j]? with
        | none => simp [hx] at ha
        | some x =>
          simp only [hx, Option.map_some, Option.some.injEq] at ha
          subst ha
          exact hg _ _ (hcv i j r x (hget i r hr) hx).2
  have := key _ rfl
  rw [hl] at this
  exact this

theorem map_VR {A' : Nat → Prop} {n n' : Nat} {vs : List Value} {l : List AV} {g : AV → AV} (hel : ∀ (i : Nat) (v : Value) (a : AV), vs[i]? = some v → l[i]? = some a → VR w A ι n v a) (hg : ∀ v x, VR w A ι n v x → VR w A' ι n' v (g x)) :
    ∀ (i : Nat) (v : Value) (a : AV), vs[i]? = some v → (l.map g)[i]? = some a → VR w A' ι n' v a := by
  intro i v a h1 h2
  rw [List.getElem?_map] at h2
  cases hx : l[i]? with
  | none => simp [hx] at h2
  | some x =>
    simp only [hx, Option.map_some, Option.some.injEq] at h2
    subst h2
    exact hg _ _ (hel i v x h1 hx)

theorem frz_VR (hr : Real w A ι σ) {m : Nat} (hm : m ≤ σ.n) : ∀ (f : Nat) (top : Bool) (v : Value) (x : AV), VR w A ι σ.n v x → VR w (Aup A ι σ m) ι (if top = true then m else 0) v (frz m σ f top x)
  | 0, _, _, _, _ => .any
  | f + 1, top, v, x, h => by
    generalize hk : (if top = true then m else 0) = k
    have ih : ∀ v x, VR w A ι σ.n v x → VR w (Aup A ι σ m) ι k v (frz m σ f top x) := fun v x h => hk ▸ frz_VR hr hm f top v x h
    have ih0 : ∀ v x, VR w A ι σ.n v x → VR w (Aup A ι σ m) ι 0 v (frz m σ f false x) := fun v x h => by simpa using frz_VR hr hm f false v x h
    have up : ∀ {v x}, Flat x → VR w A ι σ.n v x → VR w (Aup A ι σ m) ι k v x := fun hf h =>
      ((h.flat hf).mono (Nat.le_refl _) (fun _ h => .inl h) (fun _ _ => rfl) (fun _ _ => rfl)).up (Nat.zero_le _)
    have hA : ∀ id B, id < σ.n → ¬ id < m → (ι id).virt = false → σ.h id = B → B.live = true → Aup A ι σ m (ι id).blk := fun id B h0 h1 hv h2 h3 => .inr ⟨id, by omega, h0, by rw [h2]; exact h3, hv, rfl⟩
    cases h with
    | any => exact .any
    | lit => exact .lit
    | agg vs l hl hel => exact .agg vs _ (by simpa using hl) (map_VR hel ih)
    | tup vs l hl hel => exact .tup vs _ (by simpa using hl) (map_VR hel ih)
    | clo vs l hl hel => exact .clo vs _ (by simpa using hl) (map_VR hel ih)
    | psz => exact .psz
    | ps wd cv h1 h2 h3 h4 h5 => exact up .ps (.ps wd cv h1 h2 h3 h4 h5)
    | pa cv h1 h2 h3 => exact up .pa (.pa cv h1 h2 h3)
    | @os _ id off len cap hn hv hcap hl =>
      simp only [frz]
      by_cases hid : id < m
      · rw [if_pos hid]
        cases top with
        | true => simp only [if_true] at hk ⊢; subst hk; exact .os hid hv hcap hl
        | false => exact .any
      · rw [if_neg hid]
        have hb := hr.ok id hn
        cases hB : σ.h id with
        | dead => exact .any
        | flat wd rows =>
          rw [hB] at hb
          simp only
          split
          · rename_i hle
            have := RowsOk.frzRow (m := k) hb hv (hA id _ hn hid hv hB rfl) (g := fun x => x) (fun v x h => h.mono (Nat.le_refl _) (fun _ h => .inl h) (fun _ _ => rfl) (fun _ _ => rfl)) hle hl
            simpa using this
          · exact .any
        | deep wd rows =>
          rw [hB] at hb
          simp only
          split
          · rename_i hle
            exact RowsOk.frzRow (m := k) hb hv (hA id _ hn hid hv hB rfl) (g := frz m σ f false) ih0 hle hl
          · exact .any
    | @osz _ id off a hn =>
      simp only [frz]
      by_cases hid : id < m
      · rw [if_pos hid]
        cases top with
        | true => simp only [if_true] at hk ⊢; subst hk; exact .osz hid
        | false => exact .any
      · rw [if_neg hid]
        cases hB : σ.h id with
        | dead => exact .any
        | flat wd rows =>
          simp only
          split
          · simpa using VR.psz
          · exact .any
        | deep wd rows =>
          simp only
          split
          · simpa using VR.psz
          · exact .any
    | @ptr _ id r c hn hv =>
      simp only [frz]
      by_cases hid : id < m
      · rw [if_pos hid]
        cases top with
        | true => simp only [if_true] at hk ⊢; subst hk; exact .ptr hid hv
        | false => exact .any
      · rw [if_neg hid]
        have hb := hr.ok id hn
        have mk : ∀ (n : Nat) (wd : Nat) (rows : List (List AV)) (g : AV → AV), RowsOk w A ι n (ι id) wd rows → Aup A ι σ m (ι id).blk → (∀ v x, VR w A ι n v x → VR w (Aup A ι σ m) ι 0 v (g x)) → r < rows.length →
            VR w (Aup A ι σ m) ι k (.pointer (some ⟨(ι id).blk, r * (ι id).wd + c, none⟩)) (.pa ((rows.getD r []).map g) c) := by
          intro n wd rows g hb hA' hg hlt
          have hrow : rows[r]? = some (rows.getD r []) := by simp [List.getD, List.getElem?_eq_getElem hlt]
          have hat := hb.rowAt hv hrow
          have hex : ∀ j, ∃ v, ∀ a, (rows.getD r [])[j]? = some a → w.cell? ⟨(ι id).blk, r * (ι id).wd + j, none⟩ = some v ∧ VR w A ι n v a := by
            intro j
            cases hj : (rows.getD r [])[j]? with
            | none => exact ⟨undef, nofun⟩
            | some a =>
              obtain ⟨v, h1, h2⟩ := hat j a hj
              exact ⟨v, fun a' h => by cases h; exact ⟨h1, h2⟩⟩
          refine .pa (fun j => (hex j).choose) hA' (fun j a ha => ?_) (fun j a ha => ?_)
          · rw [List.getElem?_map] at ha
            obtain ⟨x, hx, _⟩ := Option.map_eq_some_iff.1 ha
            exact ((hex j).choose_spec x hx).1
          · rw [List.getElem?_map] at ha
            obtain ⟨x, hx, rfl⟩ := Option.map_eq_some_iff.1 ha
            exact hg _ _ ((hex j).choose_spec x hx).2
        cases hB : σ.h id with
        | dead => exact .any
        | flat wd rows =>
          rw [hB] at hb
          simp only
          split
          · rename_i hlt
            have := mk 0 wd rows (fun x => x) hb (hA id _ hn hid hv hB rfl) (fun v x h => h.mono (Nat.le_refl _) (fun _ h => .inl h) (fun _ _ => rfl) (fun _ _ => rfl)) hlt
            simpa using this
          · exact .any
        | deep wd rows =>
          rw [hB] at hb
          simp only
          split
          · rename_i hlt
            exact mk σ.n wd rows (frz m σ f false) hb (hA id _ hn hid hv hB rfl) ih0 hlt
          · exact .any

/-- What refers to the first blocks alone still does. -/
theorem VR.shrink {w w' : World} {A A' : Nat → Prop} {ι ι' : Owns} {n n' : Nat} {v v' : Value} {a : AV} (h : VR w A ι n v a) (h' : VR w' A' ι' n' v' a) : VR w' A' ι' n v' a := by
  induction h generalizing n' v' with
  | any => exact .any
  | lit => cases h'; exact .lit
  | agg vs l hl hel ih =>
    cases h' with
    | agg vs' _ hl' hel' => exact .agg vs' l hl' fun i v a h1 h2 => ih i _ a (List.getElem?_eq_getElem (by have := (List.getElem?_eq_some_iff.1 h2).1; omega)) h2 (hel' i v a h1 h2)
  | tup vs l hl hel ih =>
    cases h' with
    | tup vs' _ hl' hel' => exact .tup vs' l hl' fun i v a h1 h2 => ih i _ a (List.getElem?_eq_getElem (by have := (List.getElem?_eq_some_iff.1 h2).1; omega)) h2 (hel' i v a h1 h2)
  | clo vs l hl hel ih =>
    cases h' with
    | clo vs' _ hl' hel' => exact .clo vs' l hl' fun i v a h1 h2 => ih i _ a (List.getElem?_eq_getElem (by have := (List.getElem?_eq_some_iff.1 h2).1; omega)) h2 (hel' i v a h1 h2)
  | psz => exact h'.refs .ps
  | ps => exact h'.refs .ps
  | pa => exact h'.refs .pa
  | os hn => cases h' with
    | os _ hv hcap hl => exact .os hn hv hcap hl
    | osz => exact .osz hn
  | osz hn => cases h' with
    | os _ hv hcap hl => exact .os hn hv hcap hl
    | osz => exact .osz hn
  | ptr hn => cases h' with
    | ptr _ hv => exact .ptr hn hv

/-- The call's own blocks from σ.n on are given up: what they held counts as data. -/
theorem Real.leave {w' : World} {A' : Nat → Prop} {ι' : Owns} {σ' : St} (hr : Real w A ι σ) (hr' : Real w' A' ι' σ') (hx : Ext w A ι σ w' A' ι' σ') (ho : Old σ σ') :
    Real w' (Aup A' ι' σ' σ.n) ι' σ ∧ Ext w A ι σ w' (Aup A' ι' σ' σ.n) ι' σ := by
  have hlv : ∀ b, Live ι' σ b → Live ι' σ' b := by
    rintro b ⟨k, h1, h2, h3, h4⟩
    exact ⟨k, Nat.lt_of_lt_of_le h1 ho.1, by rw [ho.2 k h1]; exact h2, h3, h4⟩
  have hAl : ∀ b, Aup A' ι' σ' σ.n b → A' b ∨ Live ι' σ' b := by
    rintro b (h | ⟨id, h1, h2, h3, h4, h5⟩)
    · exact .inl h
    · exact .inr ⟨id, h2, h3, h4, h5⟩
  refine ⟨⟨fun k hk => ?_, fun i j hi hj h1 h2 h3 h4 h5 => ?_, fun b hb hb' => ?_, fun b hb => ?_, hr.dead⟩, ⟨hx.os, hx.tape, hx.output, hx.size, Nat.le_refl _, hx.io, fun b hb => .inl (hx.inA b hb), hx.keep, fun b hb => hx.live b (hlv b hb), fun b hb => ?_⟩⟩
  · have h1 := hr.ok k hk
    have h2 := hr'.ok k (Nat.lt_of_lt_of_le hk ho.1)
    rw [ho.2 k hk] at h2
    cases hB : σ.h k with
    | dead => trivial
    | flat wd rows =>
      rw [hB] at h2
      exact (show BlkOk w' A' ι' σ'.n (ι' k) (.flat wd rows) from h2).mono (n := σ'.n) (n' := σ'.n) (Nat.le_refl _) (fun _ h => .inl h) (fun _ _ => rfl) (fun _ _ => rfl) (fun _ _ => rfl)
    | deep wd rows =>
      rw [hB] at h1 h2
      have h3 : BlkOk w' (Aup A' ι' σ' σ.n) ι' σ'.n (ι' k) (.deep wd rows) := (show BlkOk w' A' ι' σ'.n (ι' k) (.deep wd rows) from h2).mono (Nat.le_refl _) (fun _ h => .inl h) (fun _ _ => rfl) (fun _ _ => rfl) (fun _ _ => rfl)
      obtain ⟨a1, a2, a3, a4⟩ := h1
      obtain ⟨b1, b2, b3, b4⟩ := h3
      refine ⟨b1, b2, b3, ?_⟩
      have hio := hx.io k hk
      rw [hio] at b4 ⊢
      by_cases hv : (ι k).virt = true
      · rw [if_pos hv] at b4 ⊢; exact b4
      · rw [if_neg hv] at a4 b4 ⊢
        obtain ⟨arr0, el0, c1, c2, c3⟩ := a4
        obtain ⟨arr, el, d1, d2, d3⟩ := b4
        refine ⟨arr, el, d1, d2, fun i row hi j a ha => ?_⟩
        obtain ⟨v0, e1, e2⟩ := c3 i row hi j a ha
        obtain ⟨v, f1, f2⟩ := d3 i row hi j a ha
        exact ⟨v, f1, e2.shrink f2⟩
  · exact hr'.inj i j (Nat.lt_of_lt_of_le hi ho.1) (Nat.lt_of_lt_of_le hj ho.1) (by rw [ho.2 i hi]; exact h1) (by rw [ho.2 j hj]; exact h2) h3 h4 h5
  · rcases hb with hb | ⟨id, g1, g2, g3, g4, g5⟩
    · exact hr'.away b hb (hlv b hb')
    · obtain ⟨k, h1, h2, h3, h4⟩ := hb'
      have := hr'.inj id k g2 (Nat.lt_of_lt_of_le h1 ho.1) g3 (by rw [ho.2 k h1]; exact h2) g4 h3 (g5.trans h4.symm)
      omega
  · exact (hAl b hb).elim (hr'.inA b) hr'.live_lt
  · exact (hAl b hb).elim (hx.newA b) (fun h => .inr (hx.live b h))

/-- A function that hands back data: its contract, from the walk of its body. -/
theorem ACall.pure {f : FuncId} {fn : Func} {args : List AV} {rs : List ResultVar} (hf : P.funcs[f]? = some fn) (hb : fn.body = some c) (hN : fn.ntmps = N) (hrs : fn.results = rs.toArray) (hn : (fn.name == "runtime.NumGoroutine") = false) (hargs : Nat.ble args.length N = true)
    (h : Sat P N c (retQ P rs fun v σ' => Old σ σ' ∧ ∃ k, K (frz σ.n σ' k true v) e σ) (initE args) σ) : ACall P f args e σ K := by
  subst hN
  have hrs' : fn.results.toList = rs := by rw [hrs]
  subst hrs'
  have h0 := ACall.intro (e := fun _ => .any) (K := fun v _ σ' => Old σ σ' ∧ ∃ k, K (frz σ.n σ' k true v) e σ) hf hb hn (by simpa using hargs) h
  refine ⟨h0.1, fun w A ι vs hr hvs => (h0.2 w A ι vs hr hvs).mono ?_⟩
  rintro en w' ⟨v, h1, A', ι', σ', av, g1, g2, g4, ho, k, hK⟩
  obtain ⟨r1, r2⟩ := hr.leave g1 g2 ho
  exact ⟨v, h1, _, ι', σ, _, r1, r2, by simpa using frz_VR g1 ho.1 k true v av g4, hK⟩

/-- The same, looked into to a given depth. -/
theorem ACall.pureK (k : Nat) {f : FuncId} {fn : Func} {args : List AV} {rs : List ResultVar} (hf : P.funcs[f]? = some fn) (hb : fn.body = some c) (hN : fn.ntmps = N) (hrs : fn.results = rs.toArray) (hn : (fn.name == "runtime.NumGoroutine") = false) (hargs : Nat.ble args.length N = true)
    (h : Sat P N c (retQ P rs fun v σ' => Old σ σ' ∧ K (nlV 3 (frz σ.n σ' k true v)) e σ) (initE args) σ) : ACall P f args e σ K := by
  subst hN
  have hrs' : fn.results.toList = rs := by rw [hrs]
  subst hrs'
  have h0 := ACall.intro (e := fun _ => .any) (K := fun v _ σ' => Old σ σ' ∧ K (nlV 3 (frz σ.n σ' k true v)) e σ) hf hb hn (by simpa using hargs) h
  refine ⟨h0.1, fun w A ι vs hr hvs => (h0.2 w A ι vs hr hvs).mono ?_⟩
  rintro en w' ⟨v, h1, A', ι', σ', av, g1, g2, g4, ho, hK⟩
  obtain ⟨r1, r2⟩ := hr.leave g1 g2 ho
  exact ⟨v, h1, _, ι', σ, _, r1, r2, nlV_VR 3 _ _ (by simpa using frz_VR g1 ho.1 k true v av g4), hK⟩

/-- A function that hands back nothing of its memory, and leaves the caller's as it was. -/
theorem ACall.bare {f : FuncId} {fn : Func} {args : List AV} {rs : List ResultVar} (hf : P.funcs[f]? = some fn) (hb : fn.body = some c) (hN : fn.ntmps = N) (hrs : fn.results = rs.toArray) (hn : (fn.name == "runtime.NumGoroutine") = false) (hargs : Nat.ble args.length N = true)
    (h : Sat P N c (retQ P rs fun v σ' => K v e σ') (initE args) σ) : ACall P f args e σ K := by
  subst hN
  have hrs' : fn.results.toList = rs := by rw [hrs]
  subst hrs'
  exact ACall.intro hf hb hn (by simpa using hargs) h

end
end Go.Proofs.Qqz
