/- The abstract meaning of slicing, making, appending is sound. -/
import Derived.Test.YtanoekhdoelkbaaGreatCoreE
set_option linter.unusedSimpArgs false
set_option linter.unusedVariables false
namespace Go.Proofs.Qqz
open Go

section
variable {P : Program} {τ : Nat → Value} {w : World} {A : Nat → Prop} {ι : Owns} {σ : St} {e : Env} {K : KT}

theorem i64_wrap {n : Int} (h0 : 0 ≤ n) (h1 : n ≤ 4294967296) : IntKind.i64.wrap n = n := by
  have hb : IntKind.i64.bits = 64 := rfl
  have hs : IntKind.i64.signed = true := rfl
  unfold IntKind.wrap
  simp only [hb, hs, Bool.true_and]
  have : n % 2 ^ 64 = n := Int.emod_eq_of_lt h0 (by omega)
  rw [this, if_neg]
  simp
  omega

theorem makeA_sound (hr : Real w A ι σ) (he : ∀ i, VR w A ι σ.n (τ i) (e i)) {t : TypeId} {l c : AV} {vl vc : Value} (hl : VR w A ι σ.n vl l) (hc : VR w A ι σ.n vc c) (h : makeA P t l c e σ K) : Ran P (Instr.makeSlice t vl vc) τ w A ι σ K := by
  unfold makeA at h
  split at h
  case h_2 => exact h.elim
  rename_i k n k' m
  obtain ⟨i, hi, g⟩ := withTI_spec h
  clear h
  unfold makeI at g
  split at g
  case h_2 => exact g.elim
  rename_i el hs
  obtain ⟨j, hj, h⟩ := withTI_spec g
  clear g
  cases hl; cases hc
  obtain ⟨h0, h1, h2, h3, h4, h5, hK⟩ := h
  have hu := slice_of hi hs
  obtain ⟨inf, d, z0, hinf, _, hz0, _, hcells, hbytes, hzero, _⟩ := tiOf_spec hj
  obtain ⟨z, hz, hzc⟩ := run_zero' (P := P) hj w
  obtain ⟨n, rfl⟩ := Int.eq_ofNat_of_zero_le h0
  obtain ⟨m, rfl⟩ := Int.eq_ofNat_of_zero_le (show (0 : Int) ≤ m by omega)
  have hw1 : IntKind.i64.wrap (n : Int) = n := i64_wrap (by omega) (by omega)
  have hw2 : IntKind.i64.wrap (m : Int) = m := i64_wrap (by omega) (by omega)
  have hb1 : ¬ (2 ^ 48 < (inf.bytes : Int) * (m : Int)) := by
    have : inf.bytes * m ≤ 4096 * 4294967296 := Nat.mul_le_mul (by omega) (by omega)
    have h' : ((inf.bytes * m : Nat) : Int) = (inf.bytes : Int) * (m : Int) := by push_cast; rfl
    rw [← h']; omega
  simp only [Int.toNat_natCast] at hK
  have hmul : ¬ (m * j.cells = 0) ∨ m = 0 := by
    rcases Nat.eq_zero_or_pos m with hm | hm
    · exact .inr hm
    · exact .inl (by have := Nat.mul_pos hm h4; omega)
  let arr : Array Value := (Array.range (m * j.cells)).map (fun x => if m * j.cells = 0 then default else z.cells[x % z.cells.size]!)
  have hrun : (Instr.makeSlice t (.int k n) (.int k' m)).run P w = .ok (.slice (some ⟨w.heap.size, 0, none⟩) n m) { w with heap := w.heap.push (.cells arr el) } := by
    have hnm : ¬ (m < n) := by omega
    have hb2 : ¬ (281474976710656 < (inf.bytes : Int) * (m : Int)) := hb1
    have hcz : j.cells ≠ 0 := by omega
    by_cases hmz : m = 0
    · subst hmz
      have hn0 : n = 0 := by omega
      subst hn0
      have hw0 : IntKind.i64.wrap 0 = 0 := i64_wrap (by omega) (by omega)
      simp [Instr.makeSlice, asInt, asIntOf, run_underlying hu, typeInfo, hinf, hw0, newRow, run_sizeOf' hj, arr]
    · have hm0 : ¬ ((m : Int) < 0) := by omega
      have hn0 : ¬ ((n : Int) < 0) := by omega
      have hmc : ¬ (m * j.cells = 0) := hmul.resolve_right hmz
      simp [Instr.makeSlice, asInt, asIntOf, run_underlying hu, typeInfo, hinf, hw1, hw2, hm0, hn0, hmc, hnm, hb2, hmz, hcz, hz, newRow, run_sizeOf' hj, arr]
  refine ⟨_, _, hrun, ?_⟩
  have hzs : z.cells.size = j.cells := by rw [← h5, ← hzc]; simp
  refine new_block (w' := { w with heap := w.heap.push (.cells arr el) }) (arr := arr) (el := el) (rows := List.replicate n (j.zero.map .lit)) (B := .flat j.cells (List.replicate n (j.zero.map .lit))) (av := .os σ.n 0 n)
    (cap := m) (wd := j.cells) (n := 0) hr he rfl rfl rfl rfl (by simp [arr]) (by simp; omega) ?_ (Nat.zero_le _) (fun _ _ _ _ _ _ h => h) ?_ (fun A ι' q hq ho => ?_) hK
  · intro q row hrow
    rw [List.getElem?_replicate] at hrow
    split at hrow
    · cases hrow; simp [h5]
    · cases hrow
  · intro q row hrow p a ha
    rw [List.getElem?_replicate] at hrow
    split at hrow
    · rename_i hq
      cases hrow
      rw [List.getElem?_map] at ha
      cases hzp : j.zero[p]? with
      | none => simp [hzp] at ha
      | some u =>
        simp [hzp] at ha
        subst ha
        have hp : p < j.cells := by rw [← h5]; exact (List.getElem?_eq_some_iff.1 hzp).1
        refine ⟨u, ?_, .lit⟩
        have hlt : q * j.cells + p < m * j.cells := by
          have : (q + 1) * j.cells ≤ m * j.cells := Nat.mul_le_mul_right _ (by omega)
          rw [Nat.add_mul] at this; omega
        have hne : ¬ (m * j.cells = 0) := by omega
        have hmod : (q * j.cells + p) % j.cells = p := by rw [Nat.mul_comm, Nat.mul_add_mod, Nat.mod_eq_of_lt hp]
        simp only [arr, Array.getElem?_map, hne, if_false, hzs]
        rw [Array.getElem?_eq_getElem (by simpa using hlt)]
        simp only [Array.getElem_range, Option.map_some, hmod]
        rw [← hzc] at hzp
        have hzp' : z.cells[p]? = some u := by simpa using hzp
        rw [getElem!_def, hzp']
    · cases hrow
  · have := VR.os (w := { w with heap := w.heap.push (.cells arr el) }) (A := A) (ι := ι') (n := q) (id := σ.n) (off := 0) (len := n) (cap := m) hq (by rw [ho]) (by rw [ho]; simp) (by omega)
    rw [ho] at this
    simp only [Nat.zero_mul] at this
    exact this

theorem bndA_cases {d : Int} {o : Option AV} {Kb : Int → Prop} (h : bndA d o Kb) : (o = none ∧ Kb d) ∨ ∃ k n, o = some (.lit (.int k n)) ∧ Kb n := by
  unfold bndA at h
  split at h
  · exact .inl ⟨rfl, h⟩
  · exact .inr ⟨_, _, rfl, h⟩
  · exact h.elim

/-- An optional operand and what it reads as. -/
def VRo (w : World) (A : Nat → Prop) (ι : Owns) (n : Nat) : Option Value → Option AV → Prop
  | none, none => True
  | some v, some a => VR w A ι n v a
  | _, _ => False

theorem VRo.bnd {w A ι n d vo o} {Kb : Int → Prop} (hv : VRo w A ι n vo o) (h : bndA d o Kb) : (vo = none ∧ o = none ∧ Kb d) ∨ ∃ k m, vo = some (.int k m) ∧ Kb m ∧ o.isSome = true := by
  rcases bndA_cases h with ⟨rfl, h⟩ | ⟨k, m, rfl, h⟩
  · cases vo with
    | none => exact .inl ⟨rfl, rfl, h⟩
    | some v => exact hv.elim
  · cases vo with
    | none => exact hv.elim
    | some v => cases hv; exact .inr ⟨k, m, rfl, h, rfl⟩

/-- The bounds of a slice expression, both in range. -/
theorem run_bounds {isSlice : Bool} {len cap : Nat} {vlo vhi : Option Value} {l h : Int} (hl : (vlo = none ∧ l = 0) ∨ ∃ k, vlo = some (.int k l)) (hh : (vhi = none ∧ h = len) ∨ ∃ k, vhi = some (.int k h))
    (h0 : 0 ≤ l) (h1 : l ≤ h) (h2 : h ≤ cap) : (Instr.sliceBounds isSlice len cap vlo vhi none).run P w = .ok (l.toNat, h.toNat, cap) w := by
  obtain ⟨l, rfl⟩ := Int.eq_ofNat_of_zero_le h0
  obtain ⟨h, rfl⟩ := Int.eq_ofNat_of_zero_le (show (0 : Int) ≤ h by omega)
  have a1 : l ≤ h := by omega
  have a2 : h ≤ cap := by omega
  rcases hl with ⟨rfl, hl⟩ | ⟨k, rfl⟩ <;> rcases hh with ⟨rfl, hh⟩ | ⟨k', rfl⟩
  · have : h = len := by omega
    have : l = 0 := by omega
    subst_vars
    simp [Instr.sliceBounds]
  · have : l = 0 := by omega
    subst_vars
    simp [Instr.sliceBounds, Instr.sliceBound, asIntOf, a2]
  · have : h = len := by omega
    subst_vars
    simp [Instr.sliceBounds, Instr.sliceBound, asIntOf, a1]
  · simp [Instr.sliceBounds, Instr.sliceBound, asIntOf, a1, a2]

theorem run_sliceAt {t el : TypeId} {j : TI} (hu : P.underlying t = some (.slice el)) (hj : tiOf P el = some j) {a : Option Addr} {len cap : Nat} {vlo vhi : Option Value} {l h : Int} (hl : (vlo = none ∧ l = 0) ∨ ∃ k, vlo = some (.int k l)) (hh : (vhi = none ∧ h = len) ∨ ∃ k, vhi = some (.int k h))
    (h0 : 0 ≤ l) (h1 : l ≤ h) (h2 : h ≤ cap) : (Instr.sliceAt t (.slice a len cap) vlo vhi none).run P w = .ok (.slice (if cap = l.toNat then a else a.map (·.add (l.toNat * j.cells))) (h.toNat - l.toNat) (cap - l.toNat)) w := by
  simp [Instr.sliceAt, run_underlying hu, Instr.slice, run_bounds hl hh h0 h1 h2, run_sizeOf' hj]

theorem bnd2 {w A ι n dlo dhi vlo vhi lo hi} {Kb : Int → Int → Prop} (hlo : VRo w A ι n vlo lo) (hhi : VRo w A ι n vhi hi) (h : bndA dlo lo fun l => bndA dhi hi fun h => Kb l h) :
    ∃ l h, ((vlo = none ∧ l = dlo) ∨ ∃ k, vlo = some (.int k l)) ∧ ((vhi = none ∧ hi = none ∧ h = dhi) ∨ ∃ k, vhi = some (.int k h)) ∧ Kb l h := by
  rcases hlo.bnd h with ⟨g1, _, g2⟩ | ⟨k, m, g1, g2, _⟩
  · rcases hhi.bnd g2 with ⟨f1, f0, f2⟩ | ⟨k', m', f1, f2, _⟩
    · exact ⟨_, _, .inl ⟨g1, rfl⟩, .inl ⟨f1, f0, rfl⟩, f2⟩
    · exact ⟨_, _, .inl ⟨g1, rfl⟩, .inr ⟨_, f1⟩, f2⟩
  · rcases hhi.bnd g2 with ⟨f1, f0, f2⟩ | ⟨k', m', f1, f2, _⟩
    · exact ⟨_, _, .inr ⟨_, g1⟩, .inl ⟨f1, f0, rfl⟩, f2⟩
    · exact ⟨_, _, .inr ⟨_, g1⟩, .inr ⟨_, f1⟩, f2⟩

theorem sliceOs_sound (hr : Real w A ι σ) (he : ∀ i, VR w A ι σ.n (τ i) (e i)) {t el : TypeId} {vx : Value} {id off len : Nat} {l h : Int} {vlo vhi : Option Value} (hx : VR w A ι σ.n vx (.os id off len))
    (hu : P.underlying t = some (.slice el)) (hl : (vlo = none ∧ l = 0) ∨ ∃ k, vlo = some (.int k l)) (hh : (vhi = none ∧ h = len) ∨ ∃ k, vhi = some (.int k h)) (g : sliceOsA P el id off len l h e σ K) :
    Ran P (Instr.sliceAt t vx vlo vhi none) τ w A ι σ K := by
  obtain ⟨h0, h1, h2, h3, hK⟩ := g
  have hj : ∃ j, tiOf P el = some j ∧ ∀ wd rows, (σ.h id = .flat wd rows ∨ σ.h id = .deep wd rows) → j.cells = wd := by
    cases hB : σ.h id with
    | dead => simp [hB] at h3
    | flat wd rows =>
      rw [hB] at h3
      obtain ⟨j, hj, h4⟩ := withTI_spec h3
      exact ⟨j, hj, fun wd' rows' h => by rcases h with h | h <;> cases h; exact h4⟩
    | deep wd rows =>
      rw [hB] at h3
      obtain ⟨j, hj, h4⟩ := withTI_spec h3
      exact ⟨j, hj, fun wd' rows' h => by rcases h with h | h <;> cases h; exact h4⟩
  obtain ⟨j, hj, hjw⟩ := hj
  obtain ⟨l, rfl⟩ := Int.eq_ofNat_of_zero_le h0
  obtain ⟨h, rfl⟩ := Int.eq_ofNat_of_zero_le (show (0 : Int) ≤ h by omega)
  simp only [Int.toNat_natCast] at hK
  rw [show ((h : Int) - (l : Int)).toNat = h - l by omega] at hK
  cases hx with
  | @os _ _ _ _ cap hn hv hcap hlc =>
    refine ⟨_, w, run_sliceAt hu hj hl hh h0 h1 (by omega), Got.same hr he ?_ hK⟩
    simp only [Int.toNat_natCast]
    by_cases hcl : cap = l
    · subst hcl
      rw [if_pos rfl, show h - cap = 0 by omega, Nat.sub_self]
      exact .osz hn
    · have hwd : (ι id).wd = j.cells := by
        have hb := hr.ok id hn
        cases hB : σ.h id with
        | dead => simp [hB] at h3
        | flat wd rows => rw [hB] at hb; rw [hjw wd rows (.inl hB)]; exact hb.1
        | deep wd rows => rw [hB] at hb; rw [hjw wd rows (.inr hB)]; exact hb.1
      rw [if_neg hcl]
      have ha : (⟨(ι id).blk, off * (ι id).wd, none⟩ : Addr).add (l * j.cells) = ⟨(ι id).blk, (off + l) * (ι id).wd, none⟩ := by
        rw [← hwd, Nat.add_mul]; unfold Addr.add; split <;> simp_all
      simp only [Option.map_some, ha]
      exact .os hn hv (by omega) (by omega)
  | @osz _ _ _ a hn =>
    have e1 : l = 0 := by omega
    have e2 : h = 0 := by omega
    subst e1; subst e2
    refine ⟨_, w, run_sliceAt hu hj hl hh h0 h1 (by omega), Got.same hr he ?_ hK⟩
    simp only [Int.toNat_natCast, if_true, Nat.sub_self]
    exact .osz hn

theorem slicePs_sound (hr : Real w A ι σ) (he : ∀ i, VR w A ι σ.n (τ i) (e i)) {t el : TypeId} {vx : Value} {rows : List (List AV)} {l h : Int} {hi mx : Option AV} {vlo vhi vmx : Option Value} (hx : VR w A ι σ.n vx (.ps rows)) (hmx : VRo w A ι σ.n vmx mx)
    (hu : P.underlying t = some (.slice el)) {j : TI} (hj : tiOf P el = some j) (hw : ∀ row ∈ rows, j.cells = row.length) (hl : (vlo = none ∧ l = 0) ∨ ∃ k, vlo = some (.int k l)) (hh : (vhi = none ∧ hi = none ∧ h = rows.length) ∨ ∃ k, vhi = some (.int k h))
    (g : slicePsA P el rows l h hi mx e σ K) : Ran P (Instr.sliceAt t vx vlo vhi vmx) τ w A ι σ K := by
  obtain ⟨h0, h1, h2, hK⟩ := g
  obtain ⟨l, rfl⟩ := Int.eq_ofNat_of_zero_le h0
  obtain ⟨h, rfl⟩ := Int.eq_ofNat_of_zero_le (show (0 : Int) ≤ h by omega)
  cases mx with
  | none =>
    have hvm : vmx = none := by cases vmx <;> simp_all [VRo]
    subst hvm
    have hh' : (vhi = none ∧ (h : Int) = rows.length) ∨ ∃ k, vhi = some (.int k h) := hh.imp (fun g => ⟨g.1, g.2.2⟩) id
    simp only [Int.toNat_natCast] at hK
    rw [show ((h : Int) - (l : Int)).toNat = h - l by omega] at hK
    have hlen : ((rows.drop l).take (h - l)).length = h - l := by simp; omega
    have hget : ∀ (k : Nat) (row : List AV), ((rows.drop l).take (h - l))[k]? = some row → rows[l + k]? = some row := fun k row hk => by
      rw [List.getElem?_take] at hk
      split at hk
      · simpa using hk
      · cases hk
    cases hx with
    | psz =>
      have e2 : h = 0 := by simp at h2; omega
      have e1 : l = 0 := by omega
      subst e1; subst e2
      refine ⟨_, w, run_sliceAt hu hj hl (by simpa using hh') h0 h1 (by omega), Got.same hr he ?_ hK⟩
      simpa using VR.psz
    | @ps _ b off cap _ wd cv hcap hA hwd hc hhv =>
      refine ⟨_, w, run_sliceAt hu hj hl hh' h0 h1 (by omega), Got.same hr he ?_ hK⟩
      simp only [Int.toNat_natCast]
      suffices hs : ∀ n, n = ((rows.drop l).take (h - l)).length → VR w A ι σ.n (.slice (if cap = l then some ⟨b, off, none⟩ else (some (⟨b, off, none⟩ : Addr)).map (·.add (l * j.cells))) n (cap - l)) (.ps ((rows.drop l).take (h - l))) from hs _ hlen.symm
      intro n hn
      subst hn
      by_cases hcl : cap = l
      · subst hcl
        have hz : (rows.drop cap).take (h - cap) = [] := by simp; omega
        rw [if_pos rfl, hz]
        exact .ps 0 (fun _ _ => undef) (by simp) hA (by simp) (by simp) (by simp)
      · rw [if_neg hcl]
        have ha : (⟨b, off, none⟩ : Addr).add (l * j.cells) = ⟨b, off + l * j.cells, none⟩ := by unfold Addr.add; split <;> simp_all
        simp only [Option.map_some, ha]
        refine .ps (cap := cap - l) j.cells (fun i k => cv (l + i) k) (by rw [hlen]; omega) hA (fun i row hi => (hw row (List.mem_of_getElem? (hget i row hi))).symm) (fun i row hi k a ha => ?_) (fun i row hi k a ha => hhv (l + i) row (hget i row hi) k a ha)
        have hrow := hget i row hi
        have e1 : wd = j.cells := (hwd _ _ hrow).symm.trans (hw row (List.mem_of_getElem? hrow)).symm
        have := hc (l + i) row hrow k a ha
        rw [e1, Nat.add_mul, ← Nat.add_assoc, ← Nat.add_assoc] at this
        rw [← Nat.add_assoc]
        exact this
  | some m =>
    obtain ⟨his, hK⟩ := hK
    rcases hh with ⟨_, g, _⟩ | ⟨kh, rfl⟩
    · subst g; cases his
    rcases hmx.bnd hK with ⟨_, g, _⟩ | ⟨k, q, rfl, ⟨rfl, g2, g3⟩, _⟩
    · cases g
    obtain ⟨j', hj', hK2⟩ := withTI_spec g3
    have e1 : h = l := by omega
    subst e1
    have hrun : ∀ (a : Option Addr) (len cap : Nat), h ≤ cap → (Instr.sliceAt t (.slice a len cap) vlo (some (.int kh h)) (some (.int k h))).run P w = .ok (.slice a 0 0) w := by
      intro a len cap hc
      have hlt : (Instr.sliceBounds true len cap vlo (some (.int kh h)) (some (.int k h))).run P w = .ok (h, h, h) w := by
        rcases hl with ⟨rfl, hl⟩ | ⟨k', rfl⟩
        · have : h = 0 := by omega
          subst this
          simp [Instr.sliceBounds, Instr.sliceBound, asIntOf]
        · simp [Instr.sliceBounds, Instr.sliceBound, asIntOf, hc]
      simp [Instr.sliceAt, run_underlying hu, Instr.slice, hlt, run_sizeOf' hj]
    have hfin : ∀ a : Option Addr, Got τ w A ι σ K (.slice a 0 0) w := fun a => by
      refine Got.mk' hr he (hr.make (o := ⟨0, 0, j'.cells, true⟩) (b0 := w.heap.size) ⟨rfl, rfl, rfl, Nat.le_refl _, fun _ _ _ => rfl⟩ nofun (fun h => Nat.lt_irrefl _ h) ?_) (.osz (by simp [St.new])) hK2
      exact ⟨rfl, by simp, by simp, by simp⟩
    cases hx with
    | psz =>
      have e2 : h = 0 := by simp at h2; omega
      exact ⟨_, w, hrun _ _ _ (by omega), hfin _⟩
    | ps wd cv hcap => exact ⟨_, w, hrun _ _ _ (by omega), hfin _⟩

theorem sliceA_sound (hr : Real w A ι σ) (he : ∀ i, VR w A ι σ.n (τ i) (e i)) {t : TypeId} {x : AV} {vx : Value} {lo hi mx : Option AV} {vlo vhi vmx : Option Value} (hx : VR w A ι σ.n vx x)
    (hlo : VRo w A ι σ.n vlo lo) (hhi : VRo w A ι σ.n vhi hi) (hmx : VRo w A ι σ.n vmx mx) (h : sliceA P t x lo hi mx e σ K) : Ran P (Instr.sliceAt t vx vlo vhi vmx) τ w A ι σ K := by
  obtain ⟨i, hi', g⟩ := withTI_spec h
  clear h
  split at g
  · rename_i id off len
    split at g
    case h_2 => exact g.elim
    rename_i el hel
    obtain ⟨hmxn, g⟩ := g
    subst hmxn
    have hvm : vmx = none := by cases vmx <;> simp_all [VRo]
    subst hvm
    obtain ⟨l, h, h1, h2, h3⟩ := bnd2 hlo hhi g
    exact sliceOs_sound hr he hx (slice_of hi' hel) h1 (h2.imp (fun g => ⟨g.1, g.2.2⟩) (fun g => g)) h3
  · rename_i rows
    split at g
    case h_2 => exact g.elim
    rename_i el hel
    obtain ⟨hw, g⟩ := g
    obtain ⟨j, hj, hw⟩ := withTI_spec hw
    obtain ⟨l, h, h1, h2, h3⟩ := bnd2 hlo hhi g
    exact slicePs_sound hr he hx hmx (slice_of hi' hel) hj hw h1 h2 h3
  · rename_i s
    obtain ⟨hs, hmxn, g⟩ := g
    subst hmxn
    have hvm : vmx = none := by cases vmx <;> simp_all [VRo]
    subst hvm
    cases hx
    obtain ⟨inf, d, z, _, hd, _, _, _, _, _, _, _, _, hstr⟩ := tiOf_spec hi'
    rw [hs] at hstr
    cases d <;> simp at hstr
    obtain ⟨l, h, h1, h2, h3, h4, h5, h6⟩ := bnd2 hlo hhi g
    have hb := run_bounds (P := P) (w := w) (isSlice := false) (cap := s.size) h1 (h2.imp (fun g => ⟨g.1, g.2.2⟩) (fun g => g)) h3 h4 h5
    exact ⟨_, w, by simp [Instr.sliceAt, run_underlying hd, Instr.slice, hb], Got.same hr he .lit h6⟩
  · exact g.elim

end
end Go.Proofs.Qqz
