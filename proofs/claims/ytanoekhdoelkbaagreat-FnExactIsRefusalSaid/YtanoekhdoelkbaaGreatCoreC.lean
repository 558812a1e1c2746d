/- Lemmas on memory: a block of the call's own is read, written, made; what else is read stays as it was. -/
import Derived.Test.YtanoekhdoelkbaaGreatCoreB
set_option linter.unusedSimpArgs false
set_option linter.unusedVariables false
namespace Go.Proofs.Qqz
open Go

theorem tiOf_spec {P : Program} {t : TypeId} {i : TI} (h : tiOf P t = some i) : ∃ inf d z, P.info? t = some inf ∧ P.underlying t = some d ∧ inf.zero = some z ∧
    i.agg = (match d with | .struct _ => true | .array _ _ => true | _ => false) ∧ i.cells = inf.size ∧ i.bytes = inf.bytes ∧ i.zero = z.cells.toList ∧
    i.slice = (match d with | .slice e => some e | _ => none) ∧ i.fields = (match d with | .struct fs => fs.toList.map fun f => (f.offset, f.type) | _ => []) ∧
    i.kind = (match d with | .int k => some k | _ => none) ∧ i.str = (match d with | .string => true | _ => false) := by
  unfold tiOf at h
  cases hi : P.info? t with
  | none => simp [hi] at h
  | some inf =>
    cases hd : P.underlying t with
    | none => simp [hi, hd] at h
    | some d =>
      cases hz : inf.zero with
      | none => simp [hi, hd, hz] at h
      | some z =>
        simp only [hi, hd, hz, Option.some.injEq] at h
        subst h
        exact ⟨inf, d, z, rfl, rfl, hz, rfl, rfl, rfl, rfl, rfl, rfl, rfl, rfl⟩

theorem withTI_spec {P : Program} {t : TypeId} {K : TI → Prop} (h : withTI P t K) : ∃ i, tiOf P t = some i ∧ K i := by
  unfold withTI at h
  split at h
  · exact ⟨_, by assumption, h⟩
  · exact h.elim

theorem slice_of {P : Program} {t : TypeId} {i : TI} {el : TypeId} (h : tiOf P t = some i) (hs : i.slice = some el) : P.underlying t = some (.slice el) := by
  obtain ⟨inf, d, z, _, hd, _, _, _, _, _, h2, _⟩ := tiOf_spec h
  rw [hs] at h2
  cases d <;> simp at h2
  subst h2
  exact hd

theorem run_sizeOf' {P : Program} {t : TypeId} {i : TI} (h : tiOf P t = some i) (w : World) : (sizeOf t).run P w = .ok i.cells w := by
  obtain ⟨inf, d, z, hi, _, _, _, hc, _⟩ := tiOf_spec h
  simp [sizeOf, typeInfo, hi, hc]

theorem run_isAgg' {P : Program} {t : TypeId} {i : TI} (h : tiOf P t = some i) (w : World) : (isAgg t).run P w = .ok i.agg w := by
  obtain ⟨inf, d, z, _, hd, _, ha, _⟩ := tiOf_spec h
  unfold isAgg
  rw [Sem.run_bind, run_underlying hd w]
  cases d <;> simp [ha]

theorem run_zero' {P : Program} {t : TypeId} {i : TI} (h : tiOf P t = some i) (w : World) : ∃ z, (zeroValue t).run P w = .ok z w ∧ z.cells.toList = i.zero := by
  obtain ⟨inf, d, z, hi, _, hz, _, _, _, hzc, _⟩ := tiOf_spec h
  exact ⟨z, by simp [zeroValue, typeInfo, hi, hz], hzc.symm⟩

/-- Cells from an offset on, as data. -/
def RowAt (w : World) (A : Nat → Prop) (ι : Owns) (n b o : Nat) (row : List AV) : Prop :=
  ∀ (j : Nat) (a : AV), row[j]? = some a → ∃ v, w.cell? ⟨b, o + j, none⟩ = some v ∧ VR w A ι n v a

theorem RowAt.up {w A ι n n' b o row} (h : RowAt w A ι n b o row) (hn : n ≤ n') : RowAt w A ι n' b o row := fun j a ha =>
  let ⟨v, h1, h2⟩ := h j a ha
  ⟨v, h1, h2.up hn⟩

theorem loadRow_sound {P : Program} {t : TypeId} {i : TI} (hi : tiOf P t = some i) {w A ι n b o} {row : List AV} {c : Nat} {e σ} {K : KT} (hr : RowAt w A ι n b o row) (h : loadRow i row c e σ K) :
    ∃ v av, (loadVar t ⟨b, o + c, none⟩).run P w = .ok v w ∧ VR w A ι n v av ∧ K av e σ := by
  unfold loadRow at h
  by_cases ha : i.agg = true
  · rw [if_pos ha] at h
    obtain ⟨h1, h2⟩ := h
    have hsub : ∀ j a, ((row.drop c).take i.cells)[j]? = some a → j < i.cells ∧ row[c + j]? = some a := by
      intro j a hj
      rw [List.getElem?_take] at hj
      split at hj
      · exact ⟨by assumption, by simpa using hj⟩
      · cases hj
    have hl : ((row.drop c).take i.cells).length = i.cells := by simp; omega
    have hv : ∀ j, j < i.cells → ∃ v, w.cell? ⟨b, o + c + j, none⟩ = some v ∧ ∀ a, ((row.drop c).take i.cells)[j]? = some a → VR w A ι n v a := by
      intro j hj
      have hx : ((row.drop c).take i.cells)[j]? = some (((row.drop c).take i.cells)[j]'(by omega)) := List.getElem?_eq_getElem (by omega)
      obtain ⟨v, h3, h4⟩ := hr _ _ (hsub _ _ hx).2
      rw [← Nat.add_assoc] at h3
      exact ⟨v, h3, fun a ha' => by rw [hx] at ha'; cases ha'; exact h4⟩
    let f : Nat → Value := fun j => if h : j < i.cells then (hv j h).choose else undef
    have hf : ∀ j, (hj : j < i.cells) → w.cell? ⟨b, o + c + j, none⟩ = some (f j) ∧ ∀ a, ((row.drop c).take i.cells)[j]? = some a → VR w A ι n (f j) a := fun j hj => by
      have : f j = (hv j hj).choose := dif_pos hj
      rw [this]; exact (hv j hj).choose_spec
    have hld := run_loadCells (P := P) w ⟨b, o + c, none⟩ i.cells f (fun j hj => by
      have : (⟨b, o + c, none⟩ : Addr).add j = ⟨b, o + c + j, none⟩ := by unfold Addr.add; split <;> simp_all
      rw [this]; exact (hf j hj).1)
    refine ⟨.agg ((List.range i.cells).map f).toArray, _, ?_, .agg _ _ (by simp [hl]) ?_, h2⟩
    · simp [loadVar, run_isAgg' hi, ha, run_sizeOf' hi, hld]
    · intro j v a hj ha'
      have hjl := (hsub _ _ ha').1
      simp [hjl] at hj
      subst hj
      exact (hf j hjl).2 a ha'
  · rw [if_neg ha] at h
    obtain ⟨h1, h2⟩ := h
    have hx : row[c]? = some (row[c]'h1) := List.getElem?_eq_getElem h1
    obtain ⟨v, h3, h4⟩ := hr _ _ hx
    refine ⟨v, _, ?_, h4, ?_⟩
    · simp [loadVar, run_isAgg' hi, ha, h3]
    · simpa [List.getD, hx] using h2

theorem VR.rowAt {w A ι n row c v} (h : VR w A ι n v (.pa row c)) : ∃ b off, v = .pointer (some ⟨b, off + c, none⟩) ∧ RowAt w A ι 0 b off row := by
  cases h with
  | pa cv hA hc h => exact ⟨_, _, rfl, fun j a ha => ⟨_, hc j a ha, h j a ha⟩⟩

theorem RowsOk.rowAt {w A ι n o wd rows} (h : RowsOk w A ι n o wd rows) (hv : o.virt = false) {r : Nat} {row : List AV} (hr : rows[r]? = some row) : RowAt w A ι n o.blk (r * o.wd) row := by
  obtain ⟨h1, h2, h3, h4⟩ := h
  rw [hv] at h4
  simp only [Bool.false_eq_true, if_false] at h4
  obtain ⟨arr, el, h5, h6, h7⟩ := h4
  intro j a ha
  obtain ⟨v, h8, h9⟩ := h7 r row hr j a ha
  refine ⟨v, ?_, h9⟩
  simp [World.cell?, h5, h1, h8]

theorem getElem?_splice {α : Type} (l : List α) (s : Nat) (xs : List α) (m : Nat) (h : s + xs.length ≤ l.length) :
    (l.take s ++ xs ++ l.drop (s + xs.length))[m]? = if m < s then l[m]? else if m < s + xs.length then xs[m - s]? else l[m]? := by
  have hs : (l.take s).length = s := by simp; omega
  by_cases h1 : m < s
  · rw [if_pos h1, List.append_assoc, List.getElem?_append_left (by omega), List.getElem?_take, if_pos h1]
  · rw [if_neg h1]
    by_cases h2 : m < s + xs.length
    · rw [if_pos h2, List.append_assoc, List.getElem?_append_right (by omega), hs, List.getElem?_append_left (by omega)]
    · rw [if_neg h2, List.getElem?_append_right (by simp; omega), List.getElem?_drop]
      congr 1
      simp
      omega

theorem avCells_spec {w A ι n v av cs} (h : VR w A ι n v av) (hc : avCells av = some cs) :
    v.cells.toList.length = cs.length ∧ ∀ (j : Nat) (u : Value) (a : AV), v.cells.toList[j]? = some u → cs[j]? = some a → VR w A ι n u a := by
  have one : ∀ (v : Value) (av : AV), v.cells = #[v] → VR w A ι n v av → avCells av = some [av] → cs = [av] → v.cells.toList.length = cs.length ∧ ∀ (j : Nat) (u : Value) (a : AV), v.cells.toList[j]? = some u → cs[j]? = some a → VR w A ι n u a := by
    intro v av hv h hc he
    subst he
    rw [hv]
    refine ⟨rfl, fun j u a hu ha => ?_⟩
    cases j with
    | zero => simp at hu ha; subst hu; subst ha; exact h
    | succ j => simp at hu
  cases h with
  | any => simp [avCells] at hc
  | lit =>
    cases v <;> simp only [avCells, Option.some.injEq] at hc <;> first
      | exact one _ _ rfl .lit rfl hc.symm
      | (subst hc
         simp only [Value.cells, List.length_map, true_and]
         intro j u a hu ha
         rw [List.getElem?_map, hu] at ha
         simp at ha
         subst ha
         exact .lit)
  | agg vs l hl h =>
    simp only [avCells, Option.some.injEq] at hc
    subst hc
    exact ⟨by simpa [Value.cells] using hl, fun j u a hu ha => h j u a (by simpa [Value.cells] using hu) ha⟩
  | tup vs l hl h => simp only [avCells, Option.some.injEq] at hc; exact one _ _ rfl (.tup vs l hl h) rfl hc.symm
  | clo vs l hl h => simp only [avCells, Option.some.injEq] at hc; exact one _ _ rfl (.clo vs l hl h) rfl hc.symm
  | psz => simp only [avCells, Option.some.injEq] at hc; exact one _ _ rfl .psz rfl hc.symm
  | ps wd cv h1 h2 h3 h4 h5 => simp only [avCells, Option.some.injEq] at hc; exact one _ _ rfl (.ps wd cv h1 h2 h3 h4 h5) rfl hc.symm
  | pa cv h1 h2 h3 => simp only [avCells, Option.some.injEq] at hc; exact one _ _ rfl (.pa cv h1 h2 h3) rfl hc.symm
  | os h1 h2 h3 h4 => simp only [avCells, Option.some.injEq] at hc; exact one _ _ rfl (.os h1 h2 h3 h4) rfl hc.symm
  | osz h1 => simp only [avCells, Option.some.injEq] at hc; exact one _ _ rfl (.osz h1) rfl hc.symm
  | ptr h1 h2 => simp only [avCells, Option.some.injEq] at hc; exact one _ _ rfl (.ptr h1 h2) rfl hc.symm

theorem VR.isCell {w A ι n v av} (h : VR w A ι n v av) (hc : av.isCell = true) : v.oneCell' = true := by
  cases h with
  | lit => cases v <;> simp [AV.isCell] at hc <;> rfl
  | any => simp [AV.isCell] at hc
  | agg => simp [AV.isCell] at hc
  | tup => simp [AV.isCell] at hc
  | _ => rfl

/-- The heap's other blocks. -/
structure Near (w w' : World) (b : Nat) : Prop where
  os : w'.os = w.os
  tape : w'.tape = w.tape
  output : w'.output = w.output
  size : w.heap.size ≤ w'.heap.size
  keep : ∀ k, k < w.heap.size → k ≠ b → w'.heap[k]? = w.heap[k]?

theorem live_put {ι : Owns} {σ : St} {id : Nat} {B : Blk} {b : Nat} (h : Live ι (σ.put id B) b) (hl : id < σ.n → (σ.h id).live = true) : Live ι σ b := by
  obtain ⟨k, h1, h2, h3, h4⟩ := h
  refine ⟨k, h1, ?_, h3, h4⟩
  simp only [St.put] at h2 h1
  by_cases hk : k = id
  · subst hk; exact hl h1
  · simpa [hk] using h2

theorem BlkOk.mono {w w' A A' ι ι' n n' o B} (h : BlkOk w A ι n o B) (hn : n ≤ n') (hA : ∀ b, A b → A' b) (hw : ∀ b, A b → w'.heap[b]? = w.heap[b]?) (hι : ∀ id, id < n → ι' id = ι id)
    (hb : B.live = true → o.virt = false → w'.heap[o.blk]? = w.heap[o.blk]?) : BlkOk w' A' ι' n' o B := by
  cases B with
  | dead => trivial
  | flat wd rows =>
    obtain ⟨h1, h2, h3, h4⟩ := h
    refine ⟨h1, h2, h3, ?_⟩
    split
    · rename_i hv; rw [if_pos hv] at h4; exact h4
    · rename_i hv
      rw [if_neg hv] at h4
      obtain ⟨arr, el, h5, h6, h7⟩ := h4
      refine ⟨arr, el, by rw [hb rfl (by simpa using hv)]; exact h5, h6, fun i row hr j a ha => ?_⟩
      obtain ⟨v, h8, h9⟩ := h7 i row hr j a ha
      exact ⟨v, h8, h9.mono (Nat.le_refl _) hA hw (fun _ h => absurd h (Nat.not_lt_zero _))⟩
  | deep wd rows =>
    obtain ⟨h1, h2, h3, h4⟩ := h
    refine ⟨h1, h2, h3, ?_⟩
    split
    · rename_i hv; rw [if_pos hv] at h4; exact h4
    · rename_i hv
      rw [if_neg hv] at h4
      obtain ⟨arr, el, h5, h6, h7⟩ := h4
      refine ⟨arr, el, by rw [hb rfl (by simpa using hv)]; exact h5, h6, fun i row hr j a ha => ?_⟩
      obtain ⟨v, h8, h9⟩ := h7 i row hr j a ha
      exact ⟨v, h8, h9.mono hn hA hw hι⟩

/-- A block of the call's own is written. -/
theorem Real.write {w w' A ι σ id B} (hr : Real w A ι σ) (hid : id < σ.n) (hl : (σ.h id).live = true) (hv : (ι id).virt = false) (hn : Near w w' (ι id).blk) (hB : BlkOk w' A ι σ.n (ι id) B) :
    Real w' A ι (σ.put id B) ∧ Ext w A ι σ w' A ι (σ.put id B) := by
  have hAne : ∀ b, A b → b ≠ (ι id).blk := fun b hb he => hr.away b hb ⟨id, hid, hl, hv, he.symm⟩
  have hAw : ∀ b, A b → w'.heap[b]? = w.heap[b]? := fun b hb => hn.keep b (hr.inA b hb) (hAne b hb)
  have hlv : ∀ b, Live ι (σ.put id B) b → Live ι σ b := fun b hb => live_put hb (fun _ => hl)
  refine ⟨⟨fun k hk => ?_, fun i j hi hj h1 h2 h3 h4 h5 => ?_, fun b hb hb' => hr.away b hb (hlv b hb'), fun b hb => Nat.lt_of_lt_of_le (hr.inA b hb) hn.size, fun k hk => ?_⟩, ⟨hn.os, hn.tape, hn.output, hn.size, Nat.le_refl _, fun _ _ => rfl, fun _ h => h, fun b hb hnl => ?_, fun b hb => .inl (hlv b hb), fun b hb => .inl hb⟩⟩
  · simp only [St.put] at hk ⊢
    by_cases hki : k = id
    · subst hki; simpa using hB
    · rw [if_neg hki]
      refine (hr.ok k hk).mono (Nat.le_refl _) (fun _ h => h) hAw (fun _ _ => rfl) (fun h1 h2 => ?_)
      have hlive : Live ι σ (ι k).blk := ⟨k, hk, h1, h2, rfl⟩
      exact hn.keep _ (hr.live_lt hlive) (fun he => hki (hr.inj k id hk hid h1 hl h2 hv he))
  · have t : ∀ k, k < σ.n → ((σ.put id B).h k).live = true → (σ.h k).live = true := fun k hk h => by
      simp only [St.put] at h
      by_cases hki : k = id
      · subst hki; exact hl
      · simpa [hki] using h
    exact hr.inj i j hi hj (t i hi h1) (t j hj h2) h3 h4 h5
  · simp only [St.put] at hk ⊢
    rw [if_neg (by omega)]
    exact hr.dead k hk
  · exact hn.keep b hb (fun he => hnl ⟨id, hid, hl, hv, he.symm⟩)

/-- A new block of the call's own; another may have been given up for it. -/
theorem Real.make {w w' A ι σ} (hr : Real w A ι σ) {o : Own} {B : Blk} {b0 : Nat} (hn : Near w w' b0) (hb : o.virt = false → o.blk = w.heap.size ∧ w.heap.size < w'.heap.size)
    (hb0 : b0 < w.heap.size → False) (hB : BlkOk w' A (fun k => if k = σ.n then o else ι k) (σ.n + 1) o B) :
    Real w' A (fun k => if k = σ.n then o else ι k) (σ.new B) ∧ Ext w A ι σ w' A (fun k => if k = σ.n then o else ι k) (σ.new B) := by
  have hAw : ∀ b, A b → w'.heap[b]? = w.heap[b]? := fun b hb => hn.keep b (hr.inA b hb) (fun he => hb0 (by subst he; exact hr.inA _ hb))
  have hι : ∀ k, k < σ.n → (if k = σ.n then o else ι k) = ι k := fun k hk => if_neg (by omega)
  have hlv : ∀ b, Live (fun k => if k = σ.n then o else ι k) (σ.new B) b → Live ι σ b ∨ w.heap.size ≤ b := by
    rintro b ⟨k, h1, h2, h3, h4⟩
    simp only [St.new] at h1 h2
    by_cases hk : k = σ.n
    · subst hk
      simp only [if_true] at h3 h4
      exact .inr (by have := (hb h3).1; omega)
    · rw [if_neg hk] at h2
      simp only [hk, if_false] at h3 h4
      exact .inl ⟨k, by omega, h2, h3, h4⟩
  have hAn : ∀ b, A b → ¬ w.heap.size ≤ b := fun b hb => by have := hr.inA b hb; omega
  refine ⟨⟨fun k hk => ?_, fun i j hi hj h1 h2 h3 h4 h5 => ?_, fun b hb hb' => (hlv b hb').elim (hr.away b hb) (hAn b hb), fun b hb => Nat.lt_of_lt_of_le (hr.inA b hb) hn.size, fun k hk => ?_⟩, ⟨hn.os, hn.tape, hn.output, hn.size, by simp [St.new], hι, fun _ h => h, fun b hb' hnl => hn.keep b hb' (fun he => hb0 (by omega)), hlv, fun b hb => .inl hb⟩⟩
  · simp only [St.new] at hk ⊢
    by_cases hki : k = σ.n
    · subst hki; simpa using hB
    · rw [if_neg hki, if_neg hki]
      refine (hr.ok k (by omega)).mono (by omega) (fun _ h => h) hAw hι (fun h1 h2 => ?_)
      have hlive : Live ι σ (ι k).blk := ⟨k, by omega, h1, h2, rfl⟩
      exact hn.keep _ (hr.live_lt hlive) (fun he => hb0 (by have := hr.live_lt hlive; omega))
  · simp only [St.new] at hi hj h1 h2 h3 h4 h5
    have old : ∀ k, k < σ.n + 1 → k ≠ σ.n → (if k = σ.n then B else σ.h k).live = true → (if k = σ.n then o else ι k).virt = false → (if k = σ.n then o else ι k).blk < w.heap.size := by
      intro k hk hkn g1 g2
      rw [if_neg hkn] at g1 g2 ⊢
      exact hr.live_lt ⟨k, by omega, g1, g2, rfl⟩
    by_cases hi' : i = σ.n <;> by_cases hj' : j = σ.n
    · omega
    · have := old j hj hj' h2 h4
      subst hi'
      simp only [if_true] at h3 h5
      have := (hb h3).1
      omega
    · have := old i hi hi' h1 h3
      subst hj'
      simp only [if_true] at h4 h5
      have := (hb h4).1
      omega
    · simp only [hi', hj', if_false] at h1 h2 h3 h4 h5
      exact hr.inj i j (by omega) (by omega) h1 h2 h3 h4 h5
  · simp only [St.new] at hk ⊢
    rw [if_neg (by omega)]
    exact hr.dead k (by omega)

/-- A block is given up. -/
theorem Real.drop {w A ι σ} (hr : Real w A ι σ) (id : Nat) : Real w A ι (σ.put id .dead) ∧ Ext w A ι σ w A ι (σ.put id .dead) := by
  have hlv : ∀ b, Live ι (σ.put id .dead) b → Live ι σ b := by
    rintro b ⟨k, h1, h2, h3, h4⟩
    simp only [St.put] at h1 h2
    by_cases hk : k = id
    · simp [hk, Blk.live] at h2
    · rw [if_neg hk] at h2; exact ⟨k, h1, h2, h3, h4⟩
  have t : ∀ k, ((σ.put id .dead).h k).live = true → (σ.h k).live = true := fun k h => by
    simp only [St.put] at h
    by_cases hki : k = id
    · simp [hki, Blk.live] at h
    · simpa [hki] using h
  refine ⟨⟨fun k hk => ?_, fun i j hi hj h1 h2 h3 h4 h5 => hr.inj i j hi hj (t i h1) (t j h2) h3 h4 h5, fun b hb hb' => hr.away b hb (hlv b hb'), hr.inA, fun k hk => ?_⟩, ⟨rfl, rfl, rfl, Nat.le_refl _, Nat.le_refl _, fun _ _ => rfl, fun _ h => h, fun _ _ _ => rfl, fun b hb => .inl (hlv b hb), fun b hb => .inl hb⟩⟩
  · simp only [St.put] at hk ⊢
    by_cases hki : k = id
    · simp [hki, BlkOk]
    · rw [if_neg hki]; exact hr.ok k hk
  · simp only [St.put] at hk ⊢
    by_cases hki : k = id
    · simp [hki]
    · rw [if_neg hki]; exact hr.dead k hk

end Go.Proofs.Qqz
