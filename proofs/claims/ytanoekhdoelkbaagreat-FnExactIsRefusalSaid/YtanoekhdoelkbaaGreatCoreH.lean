/- The abstract meaning of literals and of small operations is sound. -/
import Derived.Test.YtanoekhdoelkbaaGreatCoreG
set_option linter.unusedSimpArgs false
set_option linter.unusedVariables false
namespace Go.Proofs.Qqz
open Go

section
variable {P : Program} {τ : Nat → Value} {w : World} {A : Nat → Prop} {ι : Owns} {σ : St} {e : Env} {K : KT}

theorem foldl_set (off : Nat) : ∀ (L : List Value) (s : Nat) (cells : Array Value), off + s + L.length ≤ cells.size →
    (((L.zipIdx s).foldl (fun (cs : Array Value) (p : Value × Nat) => cs.setIfInBounds (off + p.2) p.1) cells).size = cells.size) ∧
    ∀ m, ((L.zipIdx s).foldl (fun (cs : Array Value) (p : Value × Nat) => cs.setIfInBounds (off + p.2) p.1) cells)[m]? = if off + s ≤ m ∧ m < off + s + L.length then L[m - (off + s)]? else cells[m]?
  | [], s, cells, _ => by
    refine ⟨rfl, fun m => ?_⟩
    simp only [List.zipIdx_nil, List.foldl_nil, List.length_nil, Nat.add_zero]
    rw [if_neg (by omega)]
  | x :: L, s, cells, h => by
    simp only [List.length_cons] at h
    obtain ⟨h1, h2⟩ := foldl_set off L (s + 1) (cells.setIfInBounds (off + s) x) (by simp; omega)
    simp only [List.zipIdx_cons, List.foldl_cons]
    refine ⟨by rw [h1]; simp, fun m => ?_⟩
    rw [h2 m]
    simp only [List.length_cons]
    by_cases hm : m = off + s
    · subst hm
      rw [if_neg (by omega), if_pos (by omega)]
      rw [Array.getElem?_setIfInBounds_self_of_lt (by omega)]
      simp
    · by_cases hm2 : off + (s + 1) ≤ m ∧ m < off + (s + 1) + L.length
      · rw [if_pos hm2, if_pos (by omega)]
        rw [show m - (off + s) = (m - (off + (s + 1))) + 1 by omega, List.getElem?_cons_succ]
      · rw [if_neg hm2, if_neg (by omega), Array.getElem?_setIfInBounds_ne (by omega)]

/-- Parts of a literal and what they read as. -/
def PartsR (w : World) (A : Nat → Prop) (ι : Owns) (n : Nat) : List (Nat × Value) → List (Nat × AV) → Prop
  | [], [] => True
  | p :: ps, q :: qs => p.1 = q.1 ∧ VR w A ι n p.2 q.2 ∧ PartsR w A ι n ps qs
  | _, _ => False

def CellsR (w : World) (A : Nat → Prop) (ι : Owns) (n : Nat) (cells : Array Value) (l : List AV) : Prop :=
  cells.size = l.length ∧ ∀ (m : Nat) (v : Value) (a : AV), cells[m]? = some v → l[m]? = some a → VR w A ι n v a

theorem fill_rel {n : Nat} {place placeA : Nat → Option (Nat × Nat)} (hp : ∀ i q, placeA i = some q → place i = some q) : ∀ (parts : List (Nat × Value)) (partsA : List (Nat × AV)) (cells : Array Value) (l l' : List AV),
    PartsR w A ι n parts partsA → CellsR w A ι n cells l → fillA placeA l partsA = some l' → ∃ cells', Instr.fill place cells parts = some cells' ∧ CellsR w A ι n cells' l'
  | [], [], cells, l, l', _, hc, h => by
    simp only [fillA, Option.some.injEq] at h
    subst h
    exact ⟨cells, rfl, hc⟩
  | (i, v) :: ps, (i', a) :: qs, cells, l, l', hpr, hc, h => by
    obtain ⟨h1, h2, h3⟩ := hpr
    simp only at h1
    subst h1
    simp only [fillA] at h
    split at h
    case h_2 => cases h
    rename_i off size cs hpl hcs
    split at h
    case isFalse => cases h
    rename_i hcond
    obtain ⟨hcl, hfit⟩ := hcond
    obtain ⟨hvl, hvr⟩ := avCells_spec h2 hcs
    have hvs : v.cells.size = cs.length := by rw [← hvl]; simp
    have hcz := hc.1
    obtain ⟨f1, f2⟩ := foldl_set off v.cells.toList 0 cells (by rw [hvl]; omega)
    have hfold : v.cells.zipIdx.foldl (fun (cs : Array Value) (p : Value × Nat) => cs.setIfInBounds (off + p.2) p.1) cells = (v.cells.toList.zipIdx 0).foldl (fun (cs : Array Value) (p : Value × Nat) => cs.setIfInBounds (off + p.2) p.1) cells := by
      rw [← Array.foldl_toList, Array.toList_zipIdx]
    have hcr : CellsR w A ι n (v.cells.zipIdx.foldl (fun (cs : Array Value) (p : Value × Nat) => cs.setIfInBounds (off + p.2) p.1) cells) (splice l off cs) := ?hcr
    obtain ⟨cells', g1, g2⟩ := fill_rel hp ps qs _ (splice l off cs) l' h3 hcr h
    · refine ⟨cells', ?_, g2⟩
      have hc2 : (decide (v.cells.size ≠ size) || decide (off + v.cells.size > cells.size)) = false := by
        simp only [Bool.or_eq_false_iff, decide_eq_false_iff_not]
        omega
      simp only [Instr.fill, hp _ _ hpl, hc2]
      exact g1
    case hcr =>
      rw [hfold]
      refine ⟨?_, fun m u b hu hb => ?_⟩
      · rw [f1, hcz]; simp [splice]; omega
      · rw [f2 m] at hu
        rw [splice, getElem?_splice _ _ _ _ (by omega)] at hb
        simp only [Nat.add_zero] at hu
        by_cases hm1 : m < off
        · rw [if_neg (by omega)] at hu
          rw [if_pos hm1] at hb
          exact hc.2 m u b hu hb
        · rw [if_neg hm1] at hb
          by_cases hm2 : m < off + cs.length
          · rw [if_pos (by rw [hvl]; omega)] at hu
            rw [if_pos hm2] at hb
            exact hvr _ u b hu hb
          · rw [if_neg (by rw [hvl]; omega)] at hu
            rw [if_neg hm2] at hb
            exact hc.2 m u b hu hb
  | [], _ :: _, _, _, _, hpr, _, _ => hpr.elim
  | _ :: _, [], _, _, _, hpr, _, _ => hpr.elim

theorem buildA_sound (hr : Real w A ι σ) (he : ∀ i, VR w A ι σ.n (τ i) (e i)) {t : TypeId} {parts : Array (Nat × Value)} {partsA : List (Nat × AV)} (hp : PartsR w A ι σ.n parts.toList partsA) (h : buildA P t partsA e σ K) :
    Ran P (Instr.build t parts) τ w A ι σ K := by
  obtain ⟨i, hi, hne, hall, g⟩ := withTI_spec h
  clear h
  split at g
  case h_2 => exact g.elim
  rename_i cs hcs
  obtain ⟨inf, d, z0, _, hd, _, _, _, _, _, _, hfs, _⟩ := tiOf_spec hi
  obtain ⟨z, hz, hzc⟩ := run_zero' (P := P) hi w
  cases d with
  | struct fs =>
    simp only at hfs
    -- the places of the fields
    have hpl : ∀ (L : List Field), (∀ f ∈ L, (tiOf P f.type).isSome = true) → (L.mapM (fun f => (do pure (f.offset, ← sizeOf f.type) : Sem (Nat × Nat)))).run P w = .ok (L.map fun f => (f.offset, ((tiOf P f.type).map (·.cells)).getD 0)) w := by
      intro L hL
      induction L with
      | nil => simp
      | cons f L ih =>
        obtain ⟨j, hj⟩ := Option.isSome_iff_exists.1 (hL f (by simp))
        have := ih (fun f hf => hL f (by simp [hf]))
        simp only [List.mapM_cons, Sem.run_bind, run_sizeOf' hj, Result.andThen_ok, Sem.run_pure, this]
        simp [hj]
    have hpl' := hpl fs.toList (fun f hf => hall (f.offset, f.type) (by rw [hfs]; exact List.mem_map.2 ⟨f, hf, rfl⟩))
    have hmapM : (fs.mapM (fun f => (do pure (f.offset, ← sizeOf f.type) : Sem (Nat × Nat)))).run P w = .ok (fs.toList.map fun f => (f.offset, ((tiOf P f.type).map (·.cells)).getD 0)).toArray w := by
      rw [Array.mapM_eq_mapM_toList]
      rw [Sem.run_map, hpl']
      rfl
    obtain ⟨cells', g1, g2⟩ := fill_rel (w := w) (A := A) (ι := ι) (n := σ.n) (place := ((fs.toList.map fun f => (f.offset, ((tiOf P f.type).map (·.cells)).getD 0)).toArray[·]?)) (fun k q hq => by
      rw [hfs] at hq
      simp only [List.getElem?_map] at hq
      simp only [List.getElem?_toArray, List.getElem?_map]
      cases hk : fs.toList[k]? with
      | none => simp [hk] at hq
      | some f =>
        simp only [hk, Option.map_some, Option.bind_some] at hq ⊢
        cases hj : tiOf P f.type with
        | none => simp [hj] at hq
        | some j => simp only [hj, Option.map_some, Option.some.injEq] at hq; simp [hq]) parts.toList partsA z.cells (i.zero.map .lit) cs hp ⟨by rw [← hzc]; simp, fun m v a hv ha => by
        rw [← hzc, List.getElem?_map] at ha
        simp only [Array.getElem?_toList, hv, Option.map_some, Option.some.injEq] at ha
        subst ha
        exact .lit⟩ hcs
    refine ⟨.agg cells', w, ?_, Got.same hr he ?_ g⟩
    · simp only [Instr.build, Sem.run_bind, hz, Result.andThen_ok, run_underlying hd, hmapM, Sem.run_pure, g1]
    · have := VR.agg (w := w) (A := A) (ι := ι) (n := σ.n) cells'.toList cs (by simpa using g2.1) (fun m v a hv ha => g2.2 m v a (by simpa using hv) ha)
      simpa using this
  | _ => exact absurd hfs hne

theorem buildSliceA_sound (hr : Real w A ι σ) (he : ∀ i, VR w A ι σ.n (τ i) (e i)) {t : TypeId} {n : Nat} {parts : Array (Nat × Value)} {partsA : List (Nat × AV)} (hp : PartsR w A ι σ.n parts.toList partsA) (h : buildSliceA P t n partsA e σ K) :
    Ran P (Instr.buildSlice t n parts) τ w A ι σ K := by
  obtain ⟨i, hi, g⟩ := withTI_spec h
  clear h
  split at g
  case h_2 => exact g.elim
  rename_i el hel
  obtain ⟨j, hj, hpos, hzl, hsmall, g'⟩ := withTI_spec g
  clear g
  split at g'
  case h_2 => exact g'.elim
  rename_i l hl
  obtain ⟨hflat, hK⟩ := g'
  have hu := slice_of hi hel
  obtain ⟨z, hz, hzc⟩ := run_zero' (P := P) hj w
  let cells0 : Array Value := (Array.range (n * j.cells)).map fun x => if n * j.cells = 0 then default else z.cells[x % z.cells.size]!
  obtain ⟨cells', g1, g2⟩ := fill_rel (w := w) (A := A) (ι := ι) (n := σ.n) (place := fun i => some (i * j.cells, j.cells)) (fun k q hq => by
    split at hq
    · exact hq
    · cases hq) parts.toList partsA cells0 (List.replicate (n * j.cells) .any) l hp ⟨by simp [cells0], fun m v a hv ha => by
      rw [List.getElem?_replicate] at ha
      split at ha
      · cases ha; exact .any
      · cases ha⟩ hl
  have hll : l.length = n * j.cells := by
    have : ∀ (pl : Nat → Option (Nat × Nat)) (ps : List (Nat × AV)) (l l' : List AV), fillA pl l ps = some l' → l'.length = l.length := by
      intro pl ps
      induction ps with
      | nil => intro l l' h; simp only [fillA, Option.some.injEq] at h; rw [h]
      | cons p ps ih =>
        intro l l' h
        obtain ⟨k, a⟩ := p
        simp only [fillA] at h
        split at h
        · split at h
          · rename_i hc
            rw [ih _ _ h]
            simp [splice]; omega
          · cases h
        · cases h
    rw [this _ _ _ _ hl]; simp
  refine ⟨.slice (some ⟨w.heap.size, 0, none⟩) n n, { w with heap := w.heap.push (.cells cells' el) }, ?_, ?_⟩
  · have hs2 : ¬ (16777216 < n * j.cells) := by omega
    by_cases hz0 : n * j.cells = 0
    · have g1' : Instr.fill (fun i => some (i * j.cells, j.cells)) ((Array.range (n * j.cells)).map fun x => (#[] : Array Value)[x % (#[] : Array Value).size]!) parts.toList = some cells' := by
        rw [← g1]; congr 1; simp [cells0, hz0]
      simp only [Instr.buildSlice, Sem.run_bind, run_underlying hu, run_sizeOf' hj, Result.andThen_ok]
      rw [if_neg (by omega)]
      simp only [hz0, if_true, Sem.run_pure, Sem.run_bind, Result.andThen_ok]
      rw [hz0] at g1'
      rw [g1']
      simp [newRow]
    · have g1' : Instr.fill (fun i => some (i * j.cells, j.cells)) ((Array.range (n * j.cells)).map fun x => z.cells[x % z.cells.size]!) parts.toList = some cells' := by
        rw [← g1]; congr 1; simp [cells0, hz0]
      simp only [Instr.buildSlice, Sem.run_bind, run_underlying hu, run_sizeOf' hj, Result.andThen_ok]
      rw [if_neg (by omega)]
      simp only [hz0, if_false, Sem.run_pure, Sem.run_bind, Result.andThen_ok, hz]
      rw [g1']
      simp [newRow]
  · have hcz : cells'.size = n * j.cells := by rw [g2.1, hll]
    have hrows : ∀ (k : Nat) (row : List AV), ((List.range n).map fun i => (l.drop (i * j.cells)).take j.cells)[k]? = some row → k < n ∧ (l.drop (k * j.cells)).take j.cells = row := by
      intro k row hk
      obtain ⟨h1, h2⟩ := List.getElem?_eq_some_iff.1 hk
      simp at h1 h2
      exact ⟨h1, h2⟩
    refine new_block (w' := { w with heap := w.heap.push (.cells cells' el) }) (arr := cells') (el := el) (rows := (List.range n).map fun i => (l.drop (i * j.cells)).take j.cells) (B := .flat j.cells ((List.range n).map fun i => (l.drop (i * j.cells)).take j.cells)) (av := .os σ.n 0 n)
      (cap := n) (wd := j.cells) (n := 0) hr he rfl rfl rfl rfl hcz (by simp) ?_ (Nat.zero_le _) (fun _ _ _ _ _ _ h => h) ?_ (fun A ι' q hq ho => ?_) hK
    · intro k row hk
      obtain ⟨hkn, rfl⟩ := hrows k row hk
      have : (k + 1) * j.cells ≤ n * j.cells := Nat.mul_le_mul_right _ hkn
      rw [Nat.add_mul] at this
      simp [hll]; omega
    · intro k row hk q a ha
      obtain ⟨hkn, rfl⟩ := hrows k row hk
      rw [List.getElem?_take] at ha
      split at ha
      case isFalse => cases ha
      rename_i hq
      rw [List.getElem?_drop] at ha
      have hlt := lt_mul_of hkn hq
      have hv : cells'[k * j.cells + q]? = some (cells'[k * j.cells + q]'(by omega)) := Array.getElem?_eq_getElem (by omega)
      exact ⟨_, hv, (g2.2 _ _ a hv ha).flat (hflat a (List.mem_of_getElem? ha))⟩
    · have := VR.os (w := { w with heap := w.heap.push (.cells cells' el) }) (A := A) (ι := ι') (n := q) (id := σ.n) (off := 0) (len := n) (cap := n) hq (by rw [ho]) (by rw [ho]; simp) (Nat.le_refl _)
      rw [ho] at this
      simp only [Nat.zero_mul] at this
      exact this

end
end Go.Proofs.Qqz
