/- The abstract meaning of append, copy, clear and of literals is sound. -/
import Derived.Test.YtanoekhdoelkbaaGreatCoreF
set_option linter.unusedSimpArgs false
set_option linter.unusedVariables false
namespace Go.Proofs.Qqz
open Go

section
variable {P : Program} {τ : Nat → Value} {w : World} {A : Nat → Prop} {ι : Owns} {σ : St} {e : Env} {K : KT}

/-- The cells of rows, one behind the other, in memory from an offset on. -/
def CellsAt (w : World) (A : Nat → Prop) (ι : Owns) (b o wd : Nat) (rows : List (List AV)) : Prop :=
  ∀ (i : Nat) (row : List AV), rows[i]? = some row → ∀ (j : Nat) (a : AV), row[j]? = some a → ∃ u, w.cell? ⟨b, o + (i * wd + j), none⟩ = some u ∧ VR w A ι 0 u a

theorem rowsOf_spec (hr : Real w A ι σ) {y : AV} {vy : Value} (hy : VR w A ι σ.n vy y) {new : List (List AV)} (h : rowsOf σ y = some new) {wd : Nat} (hwd : ∀ row ∈ new, row.length = wd) :
    ∃ a c, vy = .slice a new.length c ∧ (new = [] ∨ ∃ b o, a = some ⟨b, o, none⟩ ∧ CellsAt w A ι b o wd new) := by
  unfold rowsOf at h
  split at h
  · cases h
    cases hy with
    | @psz _ a => exact ⟨a, 0, rfl, .inl rfl⟩
    | @ps _ b off cap _ wd' cv hcap hA hw hc hh =>
      refine ⟨_, _, rfl, ?_⟩
      cases new with
      | nil => exact .inl rfl
      | cons r0 rs =>
        have : wd' = wd := (hw 0 r0 rfl).symm.trans (hwd r0 (by simp))
        subst this
        exact .inr ⟨b, off, rfl, fun i row hi j a ha => ⟨_, hc i row hi j a ha, hh i row hi j a ha⟩⟩
  · cases h
    cases hy
    exact ⟨none, 0, rfl, .inl rfl⟩
  · rename_i id off len
    split at h
    case h_2 => cases h
    rename_i wd' rows hB
    split at h
    case isFalse => cases h
    rename_i hle
    cases h
    have hlen : ((rows.drop off).take len).length = len := by simp; omega
    cases hy with
    | @os _ _ _ _ cap hn hv hcap hlc =>
      refine ⟨_, cap, by rw [hlen], ?_⟩
      by_cases hz : (rows.drop off).take len = []
      · exact .inl hz
      · right
        have hb := hr.ok id hn
        rw [hB] at hb
        obtain ⟨g1, g2, g3, g4⟩ := hb
        have hget : ∀ (k : Nat) (row : List AV), ((rows.drop off).take len)[k]? = some row → rows[off + k]? = some row := fun k row hk => by
          rw [List.getElem?_take] at hk
          split at hk
          · simpa using hk
          · cases hk
        refine ⟨_, _, rfl, fun i row hi j a ha => ?_⟩
        have hrow := hget i row hi
        have e1 : wd' = wd := (g3 _ _ hrow).symm.trans (hwd row (List.mem_of_getElem? hi))
        obtain ⟨u, h1, h2⟩ := RowsOk.rowAt ⟨g1, g2, g3, g4⟩ hv hrow j a ha
        refine ⟨u, ?_, h2⟩
        rw [g1, e1] at h1 ⊢
        rw [Nat.add_mul, Nat.add_assoc] at h1
        exact h1
    | @osz _ _ _ a hn => exact ⟨a, 0, by rw [hlen], .inl (List.eq_nil_of_length_eq_zero hlen)⟩
  · cases h

/-- The values of such cells. -/
theorem CellsAt.vals {b o wd : Nat} {rows : List (List AV)} (h : CellsAt w A ι b o wd rows) (hwd : ∀ row ∈ rows, row.length = wd) :
    ∃ f : Nat → Value, (∀ m, m < rows.length * wd → w.cell? ⟨b, o + m, none⟩ = some (f m)) ∧ ∀ (i : Nat) (row : List AV), rows[i]? = some row → ∀ (j : Nat) (a : AV), row[j]? = some a → VR w A ι 0 (f (i * wd + j)) a := by
  refine ⟨fun m => (w.cell? ⟨b, o + m, none⟩).getD undef, fun m hm => ?_, fun i row hi j a ha => ?_⟩
  · have hw : 0 < wd := Nat.pos_of_ne_zero (fun h0 => by subst h0; simp at hm)
    have hi : m / wd < rows.length := (Nat.div_lt_iff_lt_mul hw).2 hm
    have hri : rows[m / wd]? = some rows[m / wd] := List.getElem?_eq_getElem hi
    have hj : m % wd < rows[m / wd].length := by rw [hwd _ (List.getElem_mem _)]; exact Nat.mod_lt _ hw
    obtain ⟨u, h1, _⟩ := h _ _ hri _ _ (List.getElem?_eq_getElem hj)
    rw [show m / wd * wd + m % wd = m by rw [Nat.mul_comm]; exact Nat.div_add_mod m wd] at h1
    simp [h1]
  · obtain ⟨u, h1, h2⟩ := h i row hi j a ha
    simpa [h1] using h2

theorem lt_mul_of {i j n wd : Nat} (hi : i < n) (hj : j < wd) : i * wd + j < n * wd := by
  have : (i + 1) * wd ≤ n * wd := Nat.mul_le_mul_right _ hi
  rw [Nat.add_mul] at this
  omega

/-- The appended cells, as the run reads them. -/
theorem run_first (hr : Real w A ι σ) {y : AV} {vy : Value} (hy : VR w A ι σ.n vy y) {new : List (List AV)} (h : rowsOf σ y = some new) {wd : Nat} (hwd : ∀ row ∈ new, row.length = wd) :
    ∃ (a : Option Addr) (c : Nat) (news : List Value), vy = .slice a new.length c ∧ news.length = new.length * wd ∧ (∀ (i : Nat) (row : List AV), new[i]? = some row → ∀ (j : Nat) (a : AV), row[j]? = some a → ∃ u, news[i * wd + j]? = some u ∧ VR w A ι 0 u a) ∧
      ∀ w' : World, w'.heap = w.heap → (Builtin.firstCells wd new.length (.slice a new.length c)).run P w' = .ok news.toArray w' := by
  obtain ⟨a, c, rfl, h1⟩ := rowsOf_spec hr hy h hwd
  rcases h1 with rfl | ⟨b, o, rfl, h1⟩
  · refine ⟨a, c, [], rfl, by simp, by simp, fun w' _ => ?_⟩
    cases a <;> simp [Builtin.firstCells, loadCells, loadCellsFrom]
  · obtain ⟨f, h2, h3⟩ := h1.vals hwd
    refine ⟨_, c, (List.range (new.length * wd)).map f, rfl, by simp, fun i row hi j a ha => ⟨f (i * wd + j), ?_, h3 i row hi j a ha⟩, fun w' hw' => ?_⟩
    · have hil : i < new.length := (List.getElem?_eq_some_iff.1 hi).1
      have hjl : j < wd := by rw [← hwd row (List.mem_of_getElem? hi)]; exact (List.getElem?_eq_some_iff.1 ha).1
      have := lt_mul_of hil hjl
      simp [this]
    · have hl := run_loadCells (P := P) w' ⟨b, o, none⟩ (new.length * wd) f (fun m hm => by
        rw [show (⟨b, o, none⟩ : Addr).add m = ⟨b, o + m, none⟩ by unfold Addr.add; split <;> simp_all]
        rw [← h2 m hm]
        simp [World.cell?, hw'])
      simp [Builtin.firstCells, hl]

/-- What the append writes into a new array. -/
theorem run_grow {t t2 el e2 : TypeId} {j : TI} (hu : P.underlying t = some (.slice el)) (hu2 : P.underlying t2 = some (.slice e2)) (hj : tiOf P el = some j) {z : Value} (hz : (zeroValue el).run P w.drew = .ok z w.drew)
    {base xa : Option Addr} {sLen sCap n c : Nat} {olds news : List Value} (hfo : (Builtin.firstCells j.cells sLen (.slice base sLen sCap)).run P w.drew = .ok olds.toArray w.drew)
    (hfn : (Builtin.firstCells j.cells n (.slice xa n c)).run P w.drew = .ok news.toArray w.drew) (hg : sCap < sLen + n) (h32 : sLen + n ≤ 4294967296) (hby : j.bytes ≤ 4096) {ty : TypeId} :
    (Builtin.append_ #[t, t2] ty #[.slice base sLen sCap, .slice xa n c]).run P w =
      .ok (.slice (some ⟨w.heap.size, 0, none⟩) (sLen + n) (grownCap w (sLen + n) sCap el))
        (w.drew.alloc (.cells (olds.toArray ++ news.toArray ++ Builtin.zeroCells z.cells (grownCap w (sLen + n) sCap el - (sLen + n))) el)) := by
  obtain ⟨inf, d, z0, hinf, _, _, _, _, hbytes, _⟩ := tiOf_spec hj
  have hn : ¬ (sLen + n ≤ sCap) := by omega
  have h63' : ¬ (9223372036854775807 < ((sLen : Int) + (n : Int))) := by omega
  have hfit : (sLen + n) * inf.bytes ≤ 140737488355328 := by
    have : (sLen + n) * inf.bytes ≤ 4294967296 * 4096 := Nat.mul_le_mul h32 (by omega)
    omega
  have h48' : ¬ (281474976710656 < Builtin.nextslicecap (sLen + n) sCap * inf.bytes) := by have := growslice_fits hg hfit; omega
  simp [Builtin.append_, run_underlying hu, run_underlying hu2, run_sizeOf' hj, typeInfo, hz, hinf, Builtin.lenOf, hn, h63', h48', Question.forced, hfn, hfo, newRow, grownCap]
  congr 2
  apply Array.ext'
  simp [List.append_assoc]

/-- What the append writes into the same array. -/
theorem run_room {t t2 el e2 : TypeId} {j : TI} (hu : P.underlying t = some (.slice el)) (hu2 : P.underlying t2 = some (.slice e2)) (hj : tiOf P el = some j)
    {g sLen sCap n c : Nat} {xa : Option Addr} {news : List Value} (hfn : (Builtin.firstCells j.cells n (.slice xa n c)).run P w = .ok news.toArray w) (hroom : sLen + n ≤ sCap) {ty el2 : TypeId} {cur : Array Value} (hg : w.heap[g]? = some (.cells cur el2 (0, 0)))
    (hfit : sLen * j.cells + news.length ≤ cur.size) (h1 : ∀ u ∈ news, u.oneCell' = true) :
    (Builtin.append_ #[t, t2] ty #[.slice (some ⟨g, 0, none⟩) sLen sCap, .slice xa n c]).run P w =
      .ok (.slice (some ⟨g, 0, none⟩) (sLen + n) sCap) (w.setRow g (cur.toList.take (sLen * j.cells) ++ news ++ cur.toList.drop (sLen * j.cells + news.length)).toArray) := by
  have hst := run_storeCells_at P g (sLen * j.cells) el2 news 0 cur w hg (by simpa using hfit) h1
  simp only [Nat.add_zero] at hst
  simp [Builtin.append_, run_underlying hu, run_underlying hu2, run_sizeOf' hj, Builtin.lenOf, hroom, hfn, Addr.add_lit, hst]

theorem zeroCells_size (z : Array Value) (n : Nat) : (Builtin.zeroCells z n).size = n * z.size := by simp [Builtin.zeroCells]

theorem setRow_near (w : World) (g : Nat) (cs : Array Value) : Near w (w.setRow g cs) g := near_setRow w g cs

/-- A block goes by a new name. -/
theorem Real.move (hr : Real w A ι σ) {id : Nat} (hid : id < σ.n) : Real w A (fun k => if k = σ.n then ι id else ι k) ((σ.put id .dead).new (σ.h id)) ∧ Ext w A ι σ w A (fun k => if k = σ.n then ι id else ι k) ((σ.put id .dead).new (σ.h id)) := by
  have hι : ∀ k, k < σ.n → (if k = σ.n then ι id else ι k) = ι k := fun k hk => if_neg (by omega)
  -- the older name of a name
  let f : Nat → Nat := fun k => if k = σ.n then id else k
  have hf : ∀ k, k < σ.n + 1 → ((((σ.put id .dead).new (σ.h id)).h k).live = true) → f k < σ.n ∧ (σ.h (f k)).live = true ∧ (if k = σ.n then ι id else ι k) = ι (f k) := by
    intro k hk hl
    simp only [St.new, St.put] at hl
    by_cases hkn : k = σ.n
    · simp only [hkn, if_true] at hl
      simp only [f, hkn, if_true]
      exact ⟨hid, hl, trivial⟩
    · simp only [hkn, if_false] at hl
      simp only [f, hkn, if_false]
      by_cases hki : k = id
      · simp [hki, Blk.live] at hl
      · rw [if_neg hki] at hl
        exact ⟨by omega, hl, trivial⟩
  have hfi : ∀ k k', k < σ.n + 1 → k' < σ.n + 1 → ((((σ.put id .dead).new (σ.h id)).h k).live = true) → ((((σ.put id .dead).new (σ.h id)).h k').live = true) → f k = f k' → k = k' := by
    intro k k' hk hk' hl hl' he
    simp only [St.new, St.put] at hl hl'
    simp only [f] at he
    by_cases hkn : k = σ.n <;> by_cases hkn' : k' = σ.n
    · omega
    · simp only [hkn, if_true, hkn', if_false] at he hl'
      simp [← he, Blk.live] at hl'
    · simp only [hkn, if_false, hkn', if_true] at he hl
      simp [he, Blk.live] at hl
    · simp only [hkn, if_false, hkn'] at he; exact he
  have hlv : ∀ b, Live (fun k => if k = σ.n then ι id else ι k) ((σ.put id .dead).new (σ.h id)) b → Live ι σ b := by
    rintro b ⟨k, h1, h2, h3, h4⟩
    obtain ⟨g1, g2, g3⟩ := hf k h1 h2
    simp only [g3] at h3 h4
    exact ⟨f k, g1, g2, h3, h4⟩
  refine ⟨⟨fun k hk => ?_, fun i j hi hj h1 h2 h3 h4 h5 => ?_, fun b hb hb' => hr.away b hb (hlv b hb'), hr.inA, fun k hk => ?_⟩, ⟨rfl, rfl, rfl, Nat.le_refl _, by simp [St.new, St.put], hι, fun _ h => h, fun _ _ _ => rfl, fun b hb => .inl (hlv b hb), fun b hb => .inl hb⟩⟩
  · have hm : ∀ (o : Own) (B : Blk), BlkOk w A ι σ.n o B → BlkOk w A (fun k => if k = σ.n then ι id else ι k) (σ.n + 1) o B := fun o B h => h.mono (by omega) (fun _ h => h) (fun _ _ => rfl) hι (fun _ _ => rfl)
    simp only [St.new, St.put] at hk ⊢
    by_cases hkn : k = σ.n
    · simp only [hkn, if_true]; exact hm _ _ (hr.ok id hid)
    · simp only [hkn, if_false]
      by_cases hki : k = id
      · simp [hki, BlkOk]
      · rw [if_neg hki]; exact hm _ _ (hr.ok k (by omega))
  · obtain ⟨a1, a2, a3⟩ := hf i hi h1
    obtain ⟨b1, b2, b3⟩ := hf j hj h2
    simp only [a3] at h3 h5
    simp only [b3] at h4 h5
    exact hfi i j hi hj h1 h2 (hr.inj _ _ a1 b1 a2 b2 h3 h4 h5)
  · simp only [St.new, St.put] at hk ⊢
    have h1 : k ≠ σ.n := by omega
    have h2 : k ≠ id := by omega
    simp only [h1, h2, if_false]
    exact hr.dead k (by omega)

theorem St.put_put (σ : St) (id : Nat) (B B' : Blk) : (σ.put id B).put id B' = σ.put id B' := by
  simp only [St.put, St.mk.injEq, true_and]
  funext k
  by_cases h : k = id <;> simp [h]

/-- An empty slice without an array is taken for a block of the call's own. -/
theorem Got.virt (hr : Real w A ι σ) (he : ∀ i, VR w A ι σ.n (τ i) (e i)) {a : Option Addr} {σ' : St} (hr' : Real w A ι σ') (hn : σ'.n = σ.n) (hx : Ext w A ι σ w A ι σ') {wd : Nat} (hK : K (.os σ.n 0 0) e (σ'.new (.flat wd []))) : Got τ w A ι σ K (.slice a 0 0) w := by
  have h := hr'.make (w' := w) (o := ⟨0, 0, wd, true⟩) (b0 := w.heap.size) (B := .flat wd []) ⟨rfl, rfl, rfl, Nat.le_refl _, fun _ _ _ => rfl⟩ nofun (fun h => Nat.lt_irrefl _ h) ⟨rfl, by simp, by simp, by simp⟩
  refine Got.mk' hr he ⟨h.1, hx.trans h.2⟩ (.osz (by simp [St.new, hn])) hK

theorem appendA_sound (hr : Real w A ι σ) (he : ∀ i, VR w A ι σ.n (τ i) (e i)) {t t2 ty : TypeId} {x y : AV} {vx vy : Value} (hx : VR w A ι σ.n vx x) (hy : VR w A ι σ.n vy y) (h : appendA P t t2 x y e σ K) :
    Ran P (Builtin.append_ #[t, t2] ty #[vx, vy]) τ w A ι σ K := by
  obtain ⟨i, hi, g2, g⟩ := withTI_spec h
  clear h
  obtain ⟨i2, hi2, g2⟩ := withTI_spec g2
  obtain ⟨e2, he2⟩ := Option.isSome_iff_exists.1 g2
  split at g
  case h_2 => exact g.elim
  rename_i el hel
  have hu := slice_of hi hel
  have hu2 := slice_of hi2 he2
  obtain ⟨j, hj, hpos, hzl, hby, g⟩ := withTI_spec g
  split at g
  case h_2 => exact g.elim
  rename_i new hnew
  obtain ⟨hrows, g⟩ := g
  obtain ⟨xa, c, news, rfl, hnl, hnv, hrun⟩ := run_first (P := P) hr hy hnew (fun row hrow => (hrows row hrow).1)
  obtain ⟨z, hz, hzc⟩ := run_zero' (P := P) hj w.drew
  have hzs : z.cells.size = j.cells := by rw [← hzl, ← hzc]; simp
  have hone : ∀ u ∈ news, u.oneCell' = true := by
    intro u hu'
    obtain ⟨m, hm, rfl⟩ := List.getElem_of_mem hu'
    have hi' : m / j.cells < new.length := (Nat.div_lt_iff_lt_mul hpos).2 (by omega)
    have hrow : new[m / j.cells]? = some new[m / j.cells] := List.getElem?_eq_getElem hi'
    have hr' := hrows _ (List.getElem_mem hi')
    have hj' : m % j.cells < new[m / j.cells].length := by rw [hr'.1]; exact Nat.mod_lt _ hpos
    obtain ⟨u, h1, h2⟩ := hnv _ _ hrow _ _ (List.getElem?_eq_getElem hj')
    rw [show m / j.cells * j.cells + m % j.cells = m by rw [Nat.mul_comm]; exact Nat.div_add_mod m _] at h1
    rw [List.getElem?_eq_getElem hm] at h1
    cases h1
    exact h2.isCell (hr'.2 _ (List.getElem_mem _))
  -- a new array holds the rows of the old one, and the new ones
  have grown : ∀ (base : Option Addr) (sLen sCap : Nat) (olds : List Value) (orows : List (List AV)), orows.length = sLen → (∀ row ∈ orows, row.length = j.cells) → olds.length = sLen * j.cells →
      (∀ (i : Nat) (row : List AV), orows[i]? = some row → ∀ (q : Nat) (a : AV), row[q]? = some a → ∃ u, olds[i * j.cells + q]? = some u ∧ VR w A ι 0 u a) →
      (Builtin.firstCells j.cells sLen (.slice base sLen sCap)).run P w.drew = .ok olds.toArray w.drew → sCap < sLen + new.length → sLen + new.length ≤ 4294967296 →
      ∃ v w', (Builtin.append_ #[t, t2] ty #[.slice base sLen sCap, .slice xa new.length c]).run P w = .ok v w' ∧
        ∀ σ', Real w A ι σ' → σ'.n = σ.n → Ext w A ι σ w A ι σ' → K (.os σ.n 0 (sLen + new.length)) e (σ'.new (.flat j.cells (orows ++ new))) → Got τ w A ι σ K v w' := by
    intro base sLen sCap olds orows hol how hoc hov hfo hcap h32
    refine ⟨_, _, run_grow hu hu2 hj hz hfo (hrun _ rfl) hcap h32 hby, fun σ' hr' hn' hext hK => ?_⟩
    have hge := grownCap_ge w (sLen + new.length) sCap el
    let arr := olds.toArray ++ news.toArray ++ Builtin.zeroCells z.cells (grownCap w (sLen + new.length) sCap el - (sLen + new.length))
    have hgot := new_block (τ := τ) (w := w) (A := A) (ι := ι) (σ := σ') (e := e) (K := K) (w' := w.drew.alloc (.cells arr el)) (arr := arr) (el := el) (cap := grownCap w (sLen + new.length) sCap el) (wd := j.cells) (rows := orows ++ new)
      (v := .slice (some ⟨w.heap.size, 0, none⟩) (sLen + new.length) (grownCap w (sLen + new.length) sCap el)) (av := .os σ.n 0 (sLen + new.length)) (B := .flat j.cells (orows ++ new)) (n := 0) hr' (fun i => by rw [hn']; exact he i) rfl rfl rfl rfl ?_ ?_ ?_ (Nat.zero_le _) (fun _ _ _ _ _ _ h => h) ?_ ?_ hK
    · obtain ⟨A', ι', σ'', e', av, f1, f2, f3, f4, f5⟩ := hgot
      exact ⟨A', ι', σ'', e', av, f1, hext.trans f2, f3, f4, f5⟩
    · simp only [arr, Array.size_append, List.size_toArray, zeroCells_size, hzs, hoc, hnl, ← Nat.add_mul]
      congr 1
      omega
    · simp [hol]; omega
    · intro k row hk
      rw [List.getElem?_append] at hk
      split at hk
      · exact how row (List.mem_of_getElem? hk)
      · exact (hrows row (List.mem_of_getElem? hk)).1
    · intro k row hk q a ha
      rw [List.getElem?_append] at hk
      split at hk
      · rename_i hlt
        obtain ⟨u, f1, f2⟩ := hov k row hk q a ha
        refine ⟨u, ?_, f2⟩
        have hlt2 := (List.getElem?_eq_some_iff.1 f1).1
        simp only [arr]
        rw [Array.append_assoc, Array.getElem?_append_left (by simpa using hlt2)]
        simpa using f1
      · rename_i hge'
        obtain ⟨u, f1, f2⟩ := hnv _ row hk q a ha
        refine ⟨u, ?_, f2⟩
        have hlt2 := (List.getElem?_eq_some_iff.1 f1).1
        have e1 : k * j.cells = olds.length + (k - orows.length) * j.cells := by
          rw [hoc, ← hol, ← Nat.add_mul]; congr 1; omega
        simp only [arr]
        rw [Array.getElem?_append_left (by simp; omega), Array.getElem?_append_right (by simp; omega)]
        simp only [List.size_toArray, List.getElem?_toArray]
        rw [show k * j.cells + q - olds.length = (k - orows.length) * j.cells + q by omega]
        exact f1
    · intro A ι' q hq ho
      rw [hn'] at hq ho
      have := VR.os (w := w.drew.alloc (.cells arr el)) (A := A) (ι := ι') (n := q) (id := σ.n) (off := 0) (len := sLen + new.length) (cap := grownCap w (sLen + new.length) sCap el) hq (by rw [ho]) (by rw [ho]; simp) hge
      rw [ho] at this
      simp only [Nat.zero_mul] at this
      exact this
  have first0 : ∀ (a : Option Addr) (w : World), (Builtin.firstCells j.cells 0 (.slice a 0 0)).run P w = .ok ([] : List Value).toArray w := fun a w => by
    cases a <;> simp [Builtin.firstCells, loadCells, loadCellsFrom]
  -- nothing to append to, and nothing to append
  have none0 : ∀ (a : Option Addr), new = [] → (Builtin.append_ #[t, t2] ty #[.slice a 0 0, .slice xa new.length c]).run P w = .ok (.slice a 0 0) w := fun a hn => by
    have hf := hrun w rfl
    subst hn
    have hnews : news = [] := List.eq_nil_of_length_eq_zero (by simpa using hnl)
    subst hnews
    have hs : ∀ (a : Addr) (w : World), (storeCells a []).run P w = .ok () w := fun _ _ => rfl
    cases a <;> simp [Builtin.append_, run_underlying hu, run_underlying hu2, run_sizeOf' hj, Builtin.lenOf, hs] <;> simp_all
  split at g
  · obtain ⟨g1, hK⟩ := g
    cases hx
    by_cases hnew0 : new = []
    · refine ⟨_, _, none0 none hnew0, ?_⟩
      subst hnew0
      exact Got.virt hr he hr rfl (Ext.refl _ _ _ _) hK
    · have hpos' : 0 < new.length := List.length_pos_iff.2 hnew0
      obtain ⟨v, w', h1, h2⟩ := grown none 0 0 [] [] rfl (by simp) (by simp) (by simp) (first0 none _) (by omega) (by omega)
      exact ⟨v, w', h1, h2 σ hr rfl (Ext.refl _ _ _ _) (by simpa using hK)⟩
  · rename_i id off len _
    obtain ⟨hoff, h32, q⟩ := g
    subst hoff
    split at q
    case h_2 => exact q.elim
    rename_i wd rows hB
    obtain ⟨hwd0, hle, hny, hK⟩ := q
    subst hwd0
    have hdrop := hr.drop id
    cases hx with
    | @osz _ _ _ a hn =>
      by_cases hnew0 : new = []
      · refine ⟨_, _, none0 a hnew0, ?_⟩
        subst hnew0
        exact Got.virt hr he hdrop.1 rfl hdrop.2 (by simpa using hK)
      · have hpos' : 0 < new.length := List.length_pos_iff.2 hnew0
        obtain ⟨v, w', h1, h2⟩ := grown a 0 0 [] [] rfl (by simp) (by simp) (by simp) (first0 a _) (by omega) (by omega)
        exact ⟨v, w', h1, h2 (σ.put id .dead) hdrop.1 rfl hdrop.2 (by simpa using hK)⟩
    | @os _ _ _ _ cap hn hv hcap hlc =>
      have hb := hr.ok id hn
      rw [hB] at hb
      obtain ⟨arr, el2, hh, hsz, hwd, hrc⟩ := RowsOk.heap hb hv
      simp only [Nat.zero_mul]
      by_cases hroom : len + new.length ≤ cap
      · -- the same array
        have hfit : len * j.cells + news.length ≤ arr.size := by
          rw [hnl, hsz, ← Nat.add_mul]; exact Nat.mul_le_mul_right _ (by omega)
        refine ⟨_, _, run_room hu hu2 hj (hrun w rfl) hroom hh hfit hone, ?_⟩
        have hlive : (σ.h id).live = true := by simp [hB, Blk.live]
        have hlt : len * j.cells ≤ arr.toList.length := by simp; omega
        have hw := hr.write (B := .flat j.cells (rows.take len ++ new)) hn hlive hv (near_setRow w (ι id).blk (arr.toList.take (len * j.cells) ++ news ++ arr.toList.drop (len * j.cells + news.length)).toArray) (by
          obtain ⟨b1, b2, b3, b4⟩ := hb
          rw [hv] at b4
          simp only [Bool.false_eq_true, if_false] at b4
          obtain ⟨arr', el', b5, b6, b7⟩ := b4
          rw [hh] at b5
          cases b5
          have hA' : ∀ b, A b → (w.setRow (ι id).blk (arr.toList.take (len * j.cells) ++ news ++ arr.toList.drop (len * j.cells + news.length)).toArray).heap[b]? = w.heap[b]? := fun b hb' => setRow_other w _ _ _ (fun hbe => hr.away b hb' ⟨id, hn, hlive, hv, hbe.symm⟩)
          refine ⟨b1, by simp; omega, fun k row hk => ?_, ?_⟩
          · rw [List.getElem?_append] at hk
            split at hk
            · rw [List.getElem?_take] at hk
              split at hk
              · exact b3 k row hk
              · cases hk
            · exact (hrows row (List.mem_of_getElem? hk)).1
          · rw [hv]
            simp only [Bool.false_eq_true, if_false]
            refine ⟨_, el2, setRow_heap w _ _ _ _ _ hh, ?_, fun k row hk q a ha => ?_⟩
            · have e1 := List.length_take_of_le (l := arr.toList) (i := len * j.cells) hlt
              have e2 : arr.toList.length = arr.size := by simp
              simp only [List.size_toArray, List.length_append, e1, List.length_drop]
              omega
            · have hlen' : (rows.take len).length = len := by simp; omega
              simp only [List.getElem?_toArray]
              rw [getElem?_splice _ _ _ _ (by simpa using hfit)]
              rw [List.getElem?_append, hlen'] at hk
              split at hk
              · rename_i hkl
                rw [List.getElem?_take, if_pos hkl] at hk
                obtain ⟨u, f1, f2⟩ := b7 k row hk q a ha
                have hq : q < j.cells := by rw [← b3 k row hk]; exact (List.getElem?_eq_some_iff.1 ha).1
                have := lt_mul_of hkl hq
                rw [if_pos this]
                exact ⟨u, by simpa using f1, f2.mono (Nat.le_refl _) (fun _ h => h) hA' (fun _ _ => rfl)⟩
              · rename_i hkl
                obtain ⟨u, f1, f2⟩ := hnv _ row hk q a ha
                have hlt2 := (List.getElem?_eq_some_iff.1 f1).1
                have e1 : k * j.cells = len * j.cells + (k - len) * j.cells := by rw [← Nat.add_mul]; congr 1; omega
                rw [if_neg (by omega), if_pos (by omega)]
                exact ⟨u, by rw [show k * j.cells + q - len * j.cells = (k - len) * j.cells + q by omega]; exact f1, f2.mono (Nat.le_refl _) (fun _ h => h) hA' (fun _ _ => rfl)⟩)
        have hmv := hw.1.move (id := id) hn
        have hst : ((σ.put id (.flat j.cells (rows.take len ++ new))).put id .dead).new ((σ.put id (.flat j.cells (rows.take len ++ new))).h id) = (σ.put id .dead).new (.flat j.cells (rows.take len ++ new)) := by
          rw [St.put_put]; simp [St.put]
        rw [hst] at hmv
        refine Got.mk' hr he ⟨hmv.1, hw.2.trans hmv.2⟩ ?_ hK
        have := VR.os (w := w.setRow (ι id).blk (arr.toList.take (len * j.cells) ++ news ++ arr.toList.drop (len * j.cells + news.length)).toArray) (A := A) (ι := fun k => if k = σ.n then ι id else ι k) (n := σ.n + 1) (id := σ.n) (off := 0) (len := len + new.length) (cap := cap) (by omega) (by simpa using hv) (by simpa using hcap) hroom
        simp only [if_true, Nat.zero_mul] at this
        exact this
      · -- a new array
        have hro : rowsOf σ (.os id 0 len) = some (rows.take len) := by simp [rowsOf, hB, hle]
        have hrl : ∀ row ∈ rows.take len, row.length = j.cells := fun row hrow => by
          obtain ⟨k, hk⟩ := List.getElem?_of_mem (List.mem_of_mem_take hrow)
          exact hb.2.2.1 k row hk
        have hlen' : (rows.take len).length = len := by simp; omega
        obtain ⟨a', c', olds, f1, f2, f3, f4⟩ := run_first (P := P) hr (VR.os (w := w) (A := A) (ι := ι) (n := σ.n) hn hv hcap hlc) hro hrl
        rw [hlen'] at f1 f2 f4
        cases f1
        simp only [Nat.zero_mul] at f4
        obtain ⟨v, w', h1, h2⟩ := grown _ len cap olds (rows.take len) hlen' hrl f2 f3 (f4 _ rfl) (by omega) h32
        exact ⟨v, w', h1, h2 (σ.put id .dead) hdrop.1 rfl hdrop.2 hK⟩
  · exact g.2.elim
  · exact g.elim

end
end Go.Proofs.Qqz
