/- The abstract meaning of the other operations is sound: addresses, indexes, arithmetic, comparison. -/
import Derived.Test.YtanoekhdoelkbaaGreatCoreD
set_option linter.unusedSimpArgs false
set_option linter.unusedVariables false
namespace Go.Proofs.Qqz
open Go

section
variable {P : Program} {τ : Nat → Value} {w : World} {A : Nat → Prop} {ι : Owns} {σ : St} {e : Env} {K : KT}

theorem fieldAddrA_sound (hr : Real w A ι σ) (he : ∀ i, VR w A ι σ.n (τ i) (e i)) {t : TypeId} {x : AV} {vx : Value} {f : Nat} (hx : VR w A ι σ.n vx x) (h : fieldAddrA P t x f e σ K) : Ran P (Instr.fieldAt t vx f) τ w A ι σ K := by
  obtain ⟨i, hi, h⟩ := withTI_spec h
  obtain ⟨inf, d, z, _, hd, _, _, _, _, _, _, hfs, _⟩ := tiOf_spec hi
  split at h
  case h_2 => exact h.elim
  rename_i off ty hf
  obtain ⟨htj, h⟩ := h
  obtain ⟨j, hj, hpos⟩ := withTI_spec htj
  cases d with
  | struct fs =>
    simp only at hfs
    rw [hfs, List.getElem?_map] at hf
    cases hg : fs.toList[f]? with
    | none => simp [hg] at hf
    | some g =>
      simp [hg] at hf
      obtain ⟨rfl, rfl⟩ := hf
      have hg' : fs[f]? = some g := by simpa using hg
      have hne : j.cells ≠ 0 := by omega
      have hfp : ∀ a w, (fieldPlace a g).run P w = .ok (a.add g.offset) w := fun a w => by simp [fieldPlace, run_sizeOf' hj, hne]
      cases x with
      | pa row c =>
        cases hx with
        | @pa n b o row c cv hA hc hh =>
          refine ⟨.pointer (some ⟨b, o + (c + g.offset), none⟩), w, ?_, Got.same hr he (.pa cv hA hc hh) h⟩
          have : (⟨b, o + c, none⟩ : Addr).add g.offset = ⟨b, o + (c + g.offset), none⟩ := by
            unfold Addr.add; split <;> simp_all [Nat.add_assoc]
          simp [Instr.fieldAt, run_underlying hd, hg', Instr.sureAddr, hfp, this]
      | ptr id r c =>
        cases hx with
        | ptr hn hv =>
          refine ⟨.pointer (some ⟨(ι id).blk, r * (ι id).wd + (c + g.offset), none⟩), w, ?_, Got.same hr he (.ptr hn hv) h⟩
          have : (⟨(ι id).blk, r * (ι id).wd + c, none⟩ : Addr).add g.offset = ⟨(ι id).blk, r * (ι id).wd + (c + g.offset), none⟩ := by
            unfold Addr.add; split <;> simp_all [Nat.add_assoc]
          simp [Instr.fieldAt, run_underlying hd, hg', Instr.sureAddr, hfp, this]
      | _ => exact h.elim
  | _ => simp at hfs; simp [hfs] at hf

theorem agg_part {w A ι n} {vs : List Value} {l : List AV} (hl : vs.length = l.length) (hel : ∀ (i : Nat) (v : Value) (a : AV), vs[i]? = some v → l[i]? = some a → VR w A ι n v a) {ty : TypeId} {j : TI} (hj : tiOf P ty = some j) {off : Nat}
    (h : loadRow j l off e σ K) : ∃ v av, (part ty vs.toArray off).run P w = .ok v w ∧ VR w A ι n v av ∧ K av e σ := by
  unfold loadRow at h
  by_cases ha : j.agg = true
  · rw [if_pos ha] at h
    obtain ⟨h1, h2⟩ := h
    refine ⟨.agg ((vs.drop off).take j.cells).toArray, _, ?_, .agg _ _ ?_ ?_, h2⟩
    · simp only [part, Sem.run_bind, run_isAgg' hj, Result.andThen_ok, ha, if_true, run_sizeOf' hj, Sem.run_pure]
      congr 2
      apply Array.ext'
      simp [List.drop_take]
    · simp [hl]
    · intro k v a hv ha'
      rw [List.getElem?_take] at hv ha'
      split at hv
      · rename_i hk
        rw [if_pos hk] at ha'
        exact hel (off + k) v a (by simpa using hv) (by simpa using ha')
      · cases hv
  · rw [if_neg ha] at h
    obtain ⟨h1, h2⟩ := h
    have hv : vs[off]? = some (vs[off]'(by omega)) := List.getElem?_eq_getElem (by omega)
    have hx : l[off]? = some (l[off]'h1) := List.getElem?_eq_getElem h1
    refine ⟨vs[off]'(by omega), l[off]'h1, ?_, hel off _ _ hv hx, by simpa [List.getD, hx] using h2⟩
    simp [part, run_isAgg' hj, ha, hv]

theorem fieldA_sound (hr : Real w A ι σ) (he : ∀ i, VR w A ι σ.n (τ i) (e i)) {t : TypeId} {x : AV} {vx : Value} {f : Nat} (hx : VR w A ι σ.n vx x) (h : fieldA P t x f e σ K) : Ran P (Instr.field t vx f) τ w A ι σ K := by
  obtain ⟨i, hi, h⟩ := withTI_spec h
  obtain ⟨inf, d, z, _, hd, _, _, _, _, _, _, hfs, _⟩ := tiOf_spec hi
  split at h
  case h_2 => exact h.elim
  rename_i off ty hf
  obtain ⟨j, hj, h⟩ := withTI_spec h
  cases x with
  | agg l =>
    cases hx with
    | agg vs l hl hel =>
      obtain ⟨v, av, h1, h2, h3⟩ := agg_part (P := P) hl hel hj h
      refine ⟨v, w, ?_, Got.same hr he h2 h3⟩
      cases d with
      | struct fs =>
        simp only at hfs
        rw [hfs, List.getElem?_map] at hf
        cases hg : fs.toList[f]? with
        | none => simp [hg] at hf
        | some g =>
          simp [hg] at hf
          obtain ⟨rfl, rfl⟩ := hf
          have hg' : fs[f]? = some g := by simpa using hg
          simp [Instr.field, run_underlying hd, hg', asAgg, h1]
      | _ => simp at hfs; simp [hfs] at hf
  | _ => exact h.elim

theorem indexAddrA_sound (hr : Real w A ι σ) (he : ∀ i, VR w A ι σ.n (τ i) (e i)) {t : TypeId} {x y : AV} {vx vy : Value} (hx : VR w A ι σ.n vx x) (hy : VR w A ι σ.n vy y) (h : indexAddrA P t x y e σ K) : Ran P (Instr.indexAt t vx vy) τ w A ι σ K := by
  obtain ⟨i, hi, h⟩ := withTI_spec h
  split at h
  case h_2 => exact h.elim
  rename_i el k n hs _
  obtain ⟨j, hj, h0, h⟩ := withTI_spec h
  have hu := slice_of hi hs
  cases hy
  obtain ⟨m, rfl⟩ := Int.eq_ofNat_of_zero_le h0
  simp only [Int.toNat_natCast] at h
  cases x with
  | os id off len =>
    obtain ⟨h1, h2, h3⟩ := h
    have hm : m < len := by omega
    cases hx with
    | osz => omega
    | os hn hv hcap hl =>
      have hwd : (ι id).wd = j.cells := by
        have hb := hr.ok id hn
        cases hB : σ.h id with
        | dead => simp [hB] at h2
        | flat wd rows => rw [hB] at hb h2; exact hb.1.trans h2
        | deep wd rows => rw [hB] at hb h2; exact hb.1.trans h2
      refine ⟨.pointer (some ⟨(ι id).blk, (off + m) * (ι id).wd + 0, none⟩), w, ?_, Got.same hr he (.ptr hn hv) h3⟩
      have : (⟨(ι id).blk, off * (ι id).wd, none⟩ : Addr).add (m * j.cells) = ⟨(ι id).blk, (off + m) * (ι id).wd + 0, none⟩ := by
        rw [hwd, Nat.add_mul]; unfold Addr.add; split <;> simp_all
      simp [Instr.indexAt, asIntOf, run_underlying hu, hm, run_sizeOf' hj, this]
  | ps rows =>
    obtain ⟨h1, h2, h3⟩ := h
    have hm : m < rows.length := by omega
    have hrow : rows[m]? = some (rows.getD m []) := by simp [List.getD, List.getElem?_eq_getElem hm]
    cases hx with
    | psz => simp at hm
    | @ps n b off cap rows wd cv hcap hA hwd hc hh =>
      have hwj : wd = j.cells := (hwd m _ hrow).symm.trans h2
      subst hwj
      refine ⟨.pointer (some ⟨b, off + m * j.cells + 0, none⟩), w, ?_, Got.same hr he (.pa (cv m) hA (fun q a ha => ?_) (fun q a ha => hh m _ hrow q a ha)) h3⟩
      · have : (⟨b, off, none⟩ : Addr).add (m * j.cells) = ⟨b, off + m * j.cells + 0, none⟩ := by
          unfold Addr.add; split <;> simp_all
        simp [Instr.indexAt, asIntOf, run_underlying hu, hm, run_sizeOf' hj, this]
      · rw [Nat.add_assoc]; exact hc m _ hrow q a ha
  | _ => exact h.elim

theorem indexA_sound (hr : Real w A ι σ) (he : ∀ i, VR w A ι σ.n (τ i) (e i)) {t : TypeId} {x y : AV} {vx vy : Value} (hx : VR w A ι σ.n vx x) (hy : VR w A ι σ.n vy y) (h : indexA P t x y e σ K) : Ran P (Instr.index t vx vy) τ w A ι σ K := by
  obtain ⟨i, hi, h⟩ := withTI_spec h
  obtain ⟨inf, d, z, _, hd, _, _, _, _, _, _, _, _, hstr⟩ := tiOf_spec hi
  split at h
  case h_2 => exact h.elim
  rename_i s k n _
  obtain ⟨hs, h0, h1, h2⟩ := h
  cases hx
  cases hy
  obtain ⟨m, rfl⟩ := Int.eq_ofNat_of_zero_le h0
  have hm : m < s.size := by omega
  rw [hs] at hstr
  cases d <;> simp at hstr
  simp only [Int.toNat_natCast] at h2
  refine ⟨_, w, ?_, Got.same hr he .lit h2⟩
  have hget : s[m]? = some s[m] := by simp [hm]
  simp only [Instr.index, asIntOf, Sem.run_bind, Sem.run_pure, Result.andThen_ok, run_underlying hd, h0, if_true, Int.toNat_natCast, hget]
  have : s.data.toList.getD m 0 = s[m] := by
    have hm' : m < s.data.toList.length := by simpa using hm
    rw [List.getD, List.getElem?_eq_getElem hm']
    rfl
  rw [this]

theorem lenA_sound (hr : Real w A ι σ) (he : ∀ i, VR w A ι σ.n (τ i) (e i)) {t ty : TypeId} {x : AV} {vx : Value} (hx : VR w A ι σ.n vx x) (h : lenA P t x e σ K) : Ran P (Builtin.len_ #[t] ty #[vx]) τ w A ι σ K := by
  obtain ⟨i, hi, h⟩ := withTI_spec h
  obtain ⟨inf, d, z, _, hd, _, _, _, _, _, _, _, _, hstr⟩ := tiOf_spec hi
  have hsl : ∀ (a : Option Addr) (l c : Nat), i.slice.isSome = true → (Builtin.len_ #[t] ty #[.slice a l c]).run P w = .ok (.int .i64 l) w := fun a l c hs => by
    obtain ⟨el, hel⟩ := Option.isSome_iff_exists.1 hs
    simp [Builtin.len_, run_underlying (slice_of hi hel), goInt]
  split at h
  · obtain ⟨h1, h2⟩ := h
    cases hx with
    | os => exact ⟨_, w, hsl _ _ _ h1, Got.same hr he .lit h2⟩
    | osz => exact ⟨_, w, hsl _ _ _ h1, Got.same hr he .lit h2⟩
  · obtain ⟨h1, h2⟩ := h
    cases hx with
    | ps => exact ⟨_, w, hsl _ _ _ h1, Got.same hr he .lit h2⟩
    | psz => exact ⟨_, w, hsl _ _ _ h1, Got.same hr he .lit h2⟩
  · obtain ⟨h1, h2⟩ := h
    cases hx
    exact ⟨_, w, hsl _ _ _ h1, Got.same hr he .lit h2⟩
  · obtain ⟨h1, h2⟩ := h
    cases hx
    rw [h1] at hstr
    cases d <;> simp at hstr
    exact ⟨_, w, by simp [Builtin.len_, run_underlying hd, goInt], Got.same hr he .lit h2⟩
  · exact h.elim

theorem extractA_sound (hr : Real w A ι σ) (he : ∀ i, VR w A ι σ.n (τ i) (e i)) {x : AV} {vx : Value} {k : Nat} (hx : VR w A ι σ.n vx x) (h : extractA x k e σ K) : Ran P (Instr.extract vx k) τ w A ι σ K := by
  unfold extractA at h
  split at h
  case h_2 => exact h.elim
  rename_i l
  obtain ⟨h1, h2⟩ := h
  cases hx with
  | tup vs l hl hel =>
    have hv : vs[k]? = some (vs[k]'(by omega)) := List.getElem?_eq_getElem (by omega)
    have hx : l[k]? = some (l[k]'h1) := List.getElem?_eq_getElem h1
    exact ⟨_, w, by simp [Instr.extract, hv], Got.same hr he (hel k _ _ hv hx) (by simpa [List.getD, hx] using h2)⟩

theorem beq_dec (a b : Int) : (a == b) = decide (a = b) := by
  rw [Bool.eq_iff_iff]; simp

theorem intA_sound (hr : Real w A ι σ) (he : ∀ i, VR w A ι σ.n (τ i) (e i)) {op : BinOp} {t : TypeId} {k : IntKind} {a b : Int} (h : intA op k a b e σ K) : Ran P (binOp op t (.int k a) (.int k b)) τ w A ι σ K := by
  cases op <;> simp only [intA] at h
  case add => exact ⟨_, w, by simp [binOp, Op.intArith], Got.same hr he .lit h⟩
  case sub => exact ⟨_, w, by simp [binOp, Op.intArith], Got.same hr he .lit h⟩
  case mul => exact ⟨_, w, by simp [binOp, Op.intArith], Got.same hr he .lit h⟩
  case quo => exact ⟨_, w, by simp [binOp, Op.intDiv, h.1], Got.same hr he .lit h.2⟩
  case rem => exact ⟨_, w, by simp [binOp, Op.intDiv, h.1], Got.same hr he .lit h.2⟩
  case eql => exact ⟨_, w, by simp [binOp, Op.intCmp, beq_dec], Got.same hr he .lit h⟩
  case neq => exact ⟨_, w, by simp [binOp, Op.intCmp, bne, beq_dec], Got.same hr he .lit h⟩
  case lss => exact ⟨_, w, by simp [binOp, Op.intCmp], Got.same hr he .lit h⟩
  case leq => exact ⟨_, w, by simp [binOp, Op.intCmp], Got.same hr he .lit h⟩
  case gtr => exact ⟨_, w, by simp [binOp, Op.intCmp], Got.same hr he .lit h⟩
  case geq => exact ⟨_, w, by simp [binOp, Op.intCmp], Got.same hr he .lit h⟩

theorem eqA_sound (hr : Real w A ι σ) (he : ∀ i, VR w A ι σ.n (τ i) (e i)) {t : TypeId} {x y : AV} {vx vy : Value} (hx : VR w A ι σ.n vx x) (hy : VR w A ι σ.n vy y) {Kb : Bool → Prop} (h : eqA P t x y e σ Kb) :
    ∃ b, Kb b ∧ ((∃ p q, vx = .string p ∧ vy = .string q ∧ b = decide (p.toList = q.toList)) ∨
      ((∀ k n, vx ≠ .int k n) ∧ (∀ s, vx ≠ .string s) ∧ (∀ k n, vx ≠ .float k n) ∧ (∀ k n m, vx ≠ .complex k n m) ∧ (∀ op x y, eqGuard op t x y vx vy = pure ()) ∧ (Op.equal t vx vy).run P w = .ok b w)) := by
  have sl : ∀ (a : Option Addr) (l c : Nat) (el : TypeId), P.underlying t = some (.slice el) → (Op.equal t (.slice a l c) (.slice none 0 0)).run P w = .ok a.isNone w := fun a l c el hu => by
    have : ∀ d, (Op.equalIn (d + 1) t (.slice a l c) (.slice none 0 0)).run P w = .ok a.isNone w := fun d => by
      cases a <;> simp [Op.equalIn, run_underlying hu]
    exact this 9999
  have pt : ∀ (a : Option Addr) (el : TypeId), P.underlying t = some (.pointer el) → (Op.equal t (.pointer a) (.pointer none)).run P w = .ok a.isNone w := fun a el hu => by
    have : ∀ d, (Op.equalIn (d + 1) t (.pointer a) (.pointer none)).run P w = .ok a.isNone w := fun d => by
      cases a <;> simp [Op.equalIn, run_underlying hu]
    exact this 9999
  unfold eqA at h
  split at h
  · cases hx; cases hy
    exact ⟨_, h, .inl ⟨_, _, rfl, rfl, rfl⟩⟩
  · cases hx; cases hy
    refine ⟨_, h.2, .inr ⟨nofun, nofun, nofun, nofun, fun op x y => ?_, ?_⟩⟩
    · cases op <;> rfl
    · rename_i a b
      have : ∀ d, (Op.equalIn (d + 1) t (.bool a) (.bool b)).run P w = .ok (a == b) w := fun d => by
        simp [Op.equalIn, run_underlying h.1]
      exact this 9999
  · cases hy
    obtain ⟨⟨el, hu⟩, h⟩ := h
    cases hx with
    | @psz n a => exact ⟨a.isNone, h _ (fun _ => rfl), .inr ⟨nofun, nofun, nofun, nofun, fun op x y => by cases op <;> rfl, sl _ _ _ el hu⟩⟩
    | ps => exact ⟨false, h false nofun, .inr ⟨nofun, nofun, nofun, nofun, fun op x y => by cases op <;> rfl, sl _ _ _ el hu⟩⟩
  · cases hy
    obtain ⟨⟨el, hu⟩, h⟩ := h
    cases hx with
    | os => exact ⟨false, h false nofun, .inr ⟨nofun, nofun, nofun, nofun, fun op x y => by cases op <;> rfl, sl _ _ _ el hu⟩⟩
    | @osz n id off a => exact ⟨a.isNone, h _ (fun _ => rfl), .inr ⟨nofun, nofun, nofun, nofun, fun op x y => by cases op <;> rfl, sl _ _ _ el hu⟩⟩
  · cases hx; cases hy
    obtain ⟨⟨el, hu⟩, h⟩ := h
    exact ⟨true, h, .inr ⟨nofun, nofun, nofun, nofun, fun op x y => by cases op <;> rfl, sl _ _ _ el hu⟩⟩
  · cases hy
    obtain ⟨⟨el, hu⟩, h⟩ := h
    cases hx with
    | pa => exact ⟨false, h, .inr ⟨nofun, nofun, nofun, nofun, fun op x y => by cases op <;> rfl, pt _ el hu⟩⟩
  · cases hy
    obtain ⟨⟨el, hu⟩, h⟩ := h
    cases hx with
    | ptr => exact ⟨false, h, .inr ⟨nofun, nofun, nofun, nofun, fun op x y => by cases op <;> rfl, pt _ el hu⟩⟩
  · cases hx; cases hy
    obtain ⟨⟨el, hu⟩, h⟩ := h
    exact ⟨true, h, .inr ⟨nofun, nofun, nofun, nofun, fun op x y => by cases op <;> rfl, pt _ el hu⟩⟩
  · exact h.elim

theorem binOp_eql {t : TypeId} {vx vy : Value} {b : Bool} (h1 : ∀ k n, vx ≠ .int k n) (h2 : ∀ s, vx ≠ .string s) (h3 : ∀ k n, vx ≠ .float k n) (h4 : ∀ k n m, vx ≠ .complex k n m) (h : (Op.equal t vx vy).run P w = .ok b w) :
    (binOp .eql t vx vy).run P w = .ok (.bool b) w ∧ (binOp .neq t vx vy).run P w = .ok (.bool (!b)) w := by
  cases vx <;> first
    | exact absurd rfl (h1 _ _)
    | exact absurd rfl (h2 _)
    | exact absurd rfl (h3 _ _)
    | exact absurd rfl (h4 _ _ _)
    | simp [binOp, h]

theorem binA_sound (hr : Real w A ι σ) (he : ∀ i, VR w A ι σ.n (τ i) (e i)) {op : BinOp} {t : TypeId} {x y : AV} {vx vy : Value} {ox oy : Operand} (hx : VR w A ι σ.n vx x) (hy : VR w A ι σ.n vy y) (h : binA P op t x y e σ K) :
    Ran P (do eqGuard op t ox oy vx vy; binOp op t vx vy) τ w A ι σ K := by
  unfold binA at h
  split at h
  · cases hx; cases hy
    obtain ⟨rfl, h⟩ := h
    have hg : ∀ k a b, eqGuard op t ox oy (.int k a) (.int k b) = pure () := fun k a b => by cases op <;> rfl
    obtain ⟨v, w', h1, h2⟩ := intA_sound (P := P) (t := t) hr he h
    exact ⟨v, w', by rw [hg]; simpa using h1, h2⟩
  · split at h
    · obtain ⟨b, hK, h⟩ := eqA_sound (P := P) hr he hx hy h
      rcases h with ⟨p, q, rfl, rfl, rfl⟩ | ⟨h1, h2, h3, h4, hg, h5⟩
      · refine ⟨_, w, ?_, Got.same hr he .lit hK⟩
        have hg : eqGuard .eql t ox oy (.string p) (.string q) = pure () := rfl
        rw [hg]
        simp only [Sem.run_bind, Sem.run_pure, Result.andThen_ok, binOp, Op.stringOp]
        congr 2
        rw [Bool.eq_iff_iff]; simp
      · refine ⟨_, w, ?_, Got.same hr he .lit hK⟩
        rw [hg]
        simpa using (binOp_eql h1 h2 h3 h4 h5).1
    · obtain ⟨b, hK, h⟩ := eqA_sound (P := P) hr he hx hy h
      rcases h with ⟨p, q, rfl, rfl, rfl⟩ | ⟨h1, h2, h3, h4, hg, h5⟩
      · refine ⟨_, w, ?_, Got.same hr he .lit hK⟩
        have hg : eqGuard .neq t ox oy (.string p) (.string q) = pure () := rfl
        rw [hg]
        simp only [Sem.run_bind, Sem.run_pure, Result.andThen_ok, binOp, Op.stringOp]
        congr 3
        rw [Bool.eq_iff_iff]; simp
      · refine ⟨_, w, ?_, Got.same hr he .lit hK⟩
        rw [hg]
        simpa using (binOp_eql h1 h2 h3 h4 h5).2
    · split at h
      · cases hx; cases hy
        rename_i p q _
        refine ⟨_, w, ?_, Got.same hr he .lit h.2⟩
        have hg : eqGuard .add t ox oy (.string p) (.string q) = pure () := rfl
        have hs : ¬ (((p.size + q.size : Nat) : Int) > IntKind.i64.max) := by
          have : IntKind.i64.max = 9223372036854775807 := by decide
          rw [this]; omega
        rw [hg]
        simp only [Sem.run_bind, Sem.run_pure, Result.andThen_ok, binOp, Op.stringOp, if_neg hs]
      · exact h.elim
    · exact h.elim

theorem unA_sound (hr : Real w A ι σ) (he : ∀ i, VR w A ι σ.n (τ i) (e i)) {op : UnOp} {x : AV} {vx : Value} (hx : VR w A ι σ.n vx x) (h : unA op x e σ K) : Ran P (Op.unary op vx) τ w A ι σ K := by
  unfold unA at h
  split at h
  · cases hx; exact ⟨_, w, by simp [Op.unary, Op.intArith], Got.same hr he .lit h⟩
  · cases hx; exact ⟨_, w, by simp [Op.unary], Got.same hr he .lit h⟩
  · exact h.elim

theorem convA_sound (hr : Real w A ι σ) (he : ∀ i, VR w A ι σ.n (τ i) (e i)) {src dst : TypeId} {x : AV} {vx : Value} (hx : VR w A ι σ.n vx x) (hsrc : (P.underlying src).isSome = true) (h : convA P dst x e σ K) : Ran P (convert src dst vx) τ w A ι σ K := by
  unfold convA at h
  split at h
  · rename_i k k' n hd
    cases hx
    obtain ⟨s, hs⟩ := Option.isSome_iff_exists.1 hsrc
    refine ⟨_, w, ?_, Got.same hr he .lit h⟩
    simp only [convert, Sem.run_bind, run_underlying hs, run_underlying hd, Result.andThen_ok]
    cases s <;> simp [Conv.intToInt]
  · exact h.elim

end
end Go.Proofs.Qqz
