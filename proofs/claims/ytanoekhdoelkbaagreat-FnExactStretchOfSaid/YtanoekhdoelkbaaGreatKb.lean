/- The abstract meaning of slicing, making, appending is sound. -/
import Derived.Test.YtanoekhdoelkbaaGreatKa
import Derived.Tactics
set_option linter.unusedSimpArgs false
set_option linter.unusedVariables false
namespace Go.Proofs.Qqz
open Go

section
variable {P : Program} {τ : Nat → Value} {w : World} {A : Nat → Prop} {ι : Owns} {σ : St} {e : Env} {K : KT}

theorem i64_wrap {n : Int} (h0 : 0 ≤ n) (h1 : n ≤ 4294967296) : IntKind.i64.wrap n = n := by
  have hb : IntKind.i64.bits = 64 := rfl
  have hs : IntKind.i64.signed = true := rfl
  unfold IntKind.wrap
  simp only [hb, hs, Bool.true_and]
  have : n % 2 ^ 64 = n := Int.emod_eq_of_lt h0 (by omega)
  rw [this, if_neg]
  simp
  omega

theorem makeA_sound (hr : Real w A ι σ) (he : ∀ i, VR w A ι σ.n (τ i) (e i)) {t : TypeId} {l c : AV} {vl vc : Value} (hl : VR w A ι σ.n vl l) (hc : VR w A ι σ.n vc c) (h : makeA P t l c e σ K) : Ran P (Instr.makeSlice t vl vc) τ w A ι σ K := by
  unfold makeA at h
  split at h
  case h_2 => exact h.elim
  rename_i k n k' m
  obtain ⟨i, hi, g⟩ := withTI_spec h
  clear h
  unfold makeI at g
  split at g
  case h_2 => exact g.elim
  rename_i el hs
  obtain ⟨j, hj, h⟩ := withTI_spec g
  clear g
  cases hl; cases hc
  obtain ⟨h0, h1, h2, h3, h4, h5, hK⟩ := h
  have hu := slice_of hi hs
  obtain ⟨inf, d, z0, hinf, _, hz0, _, hcells, hbytes, hzero, _⟩ := tiOf_spec hj
  obtain ⟨z, hz, hzc⟩ := run_zero' (P := P) hj w
  obtain ⟨n, rfl⟩ := Int.eq_ofNat_of_zero_le h0
  obtain ⟨m, rfl⟩ := Int.eq_ofNat_of_zero_le (show (0 : Int) ≤ m by omega)
  have hw1 : IntKind.i64.wrap (n : Int) = n := i64_wrap (by omega) (by omega)
  have hw2 : IntKind.i64.wrap (m : Int) = m := i64_wrap (by omega) (by omega)
  have hb1 : ¬ (2 ^ 48 < (inf.bytes : Int) * (m : Int)) := by
    have : inf.bytes * m ≤ 4096 * 4294967296 := Nat.mul_le_mul (by omega) (by omega)
    have h' : ((inf.bytes * m : Nat) : Int) = (inf.bytes : Int) * (m : Int) := by push_cast; rfl
    rw [← h']; omega
  simp only [Int.toNat_natCast] at hK
  have hmul : ¬ (m * j.cells = 0) ∨ m = 0 := by
    rcases Nat.eq_zero_or_pos m with hm | hm
    · exact .inr hm
    · exact .inl (by have := Nat.mul_pos hm h4; omega)
  let arr : Array Value := (Array.range (m * j.cells)).map (fun x => if m * j.cells = 0 then default else z.cells[x % z.cells.size]!)
  have hrun : (Instr.makeSlice t (.int k n) (.int k' m)).run P w = .ok (.slice (some ⟨w.heap.size, 0, none⟩) n m) { w with heap := w.heap.push (.cells arr el) } := by
    have hnm : ¬ (m < n) := by omega
    have hb2 : ¬ (281474976710656 < (inf.bytes : Int) * (m : Int)) := hb1
    have hcz : j.cells ≠ 0 := by omega
    by_cases hmz : m = 0
    · subst hmz
      have hn0 : n = 0 := by omega
      subst hn0
      have hw0 : IntKind.i64.wrap 0 = 0 := i64_wrap (by omega) (by omega)
      simp [Instr.makeSlice, asInt, asIntOf, run_underlying hu, typeInfo, hinf, hw0, newRow, run_sizeOf' hj, arr]
    · have hm0 : ¬ ((m : Int) < 0) := by omega
      have hn0 : ¬ ((n : Int) < 0) := by omega
      have hmc : ¬ (m * j.cells = 0) := hmul.resolve_right hmz
      simp [Instr.makeSlice, asInt, asIntOf, run_underlying hu, typeInfo, hinf, hw1, hw2, hm0, hn0, hmc, hnm, hb2, hmz, hcz, hz, newRow, run_sizeOf' hj, arr]
  refine ⟨_, _, hrun, ?_⟩
  have hzs : z.cells.size = j.cells := by rw [← h5, ← hzc]; simp
  refine new_block (w' := { w with heap := w.heap.push (.cells arr el) }) (arr := arr) (el := el) (rows := List.replicate n (j.zero.map .lit)) (B := .flat j.cells (List.replicate n (j.zero.map .lit))) (av := .os σ.n 0 n)
    (cap := m) (wd := j.cells) (n := 0) hr he rfl rfl rfl rfl (by simp [arr]) (by simp; omega) ?_ (Nat.zero_le _) (fun _ _ _ _ _ _ h => h) ?_ (fun A ι' q hq ho => ?_) hK
  · intro q row hrow
    rw [List.getElem?_replicate] at hrow
    split at hrow
    · cases hrow; simp [h5]
    · cases hrow
  · intro q row hrow p a ha
    rw [List.getElem?_replicate] at hrow
    split at hrow
    · rename_i hq
      cases hrow
      rw [List.getElem?_map] at ha
      cases hzp : j.zero[p]? with
      | none => simp [hzp] at ha
      | some u =>
        simp [hzp] at ha
        subst ha
        have hp : p < j.cells := by rw [← h5]; exact (List.getElem?_eq_some_iff.1 hzp).1
        refine ⟨u, ?_, .lit⟩
        have hlt : q * j.cells + p < m * j.cells := by
          have : (q + 1) * j.cells ≤ m * j.cells := Nat.mul_le_mul_right _ (by omega)
          rw [Nat.add_mul] at this; omega
        have hne : ¬ (m * j.cells = 0) := by omega
        have hmod : (q * j.cells + p) % j.cells = p := by rw [Nat.mul_comm, Nat.mul_add_mod, Nat.mod_eq_of_lt hp]
        simp only [arr, Array.getElem?_map, hne, if_false, hzs]
        rw [Array.getElem?_eq_getElem (by simpa using hlt)]
        simp only [Array.getElem_range, Option.map_some, hmod]
        rw [← hzc] at hzp
        have hzp' : z.cells[p]? = some u := by simpa using hzp
        rw [getElem!_def, hzp']
    · cases hrow
  · have := VR.os (w := { w with heap := w.heap.push (.cells arr el) }) (A := A) (ι := ι') (n := q) (id := σ.n) (off := 0) (len := n) (cap := m) hq (by rw [ho]) (by rw [ho]; simp) (by omega)
    rw [ho] at this
    simp only [Nat.zero_mul] at this
    exact this

theorem bndA_cases {d : Int} {o : Option AV} {Kb : Int → Prop} (h : bndA d o Kb) : (o = none ∧ Kb d) ∨ ∃ k n, o = some (.lit (.int k n)) ∧ Kb n := by
  unfold bndA at h
  split at h
  · exact .inl ⟨rfl, h⟩
  · exact .inr ⟨_, _, rfl, h⟩
  · exact h.elim

/-- An optional operand and what it reads as. -/
def VRo (w : World) (A : Nat → Prop) (ι : Owns) (n : Nat) : Option Value → Option AV → Prop
  | none, none => True
  | some v, some a => VR w A ι n v a
  | _, _ => False

theorem VRo.bnd {w A ι n d vo o} {Kb : Int → Prop} (hv : VRo w A ι n vo o) (h : bndA d o Kb) : (vo = none ∧ o = none ∧ Kb d) ∨ ∃ k m, vo = some (.int k m) ∧ Kb m ∧ o.isSome = true := by
  rcases bndA_cases h with ⟨rfl, h⟩ | ⟨k, m, rfl, h⟩
  · cases vo with
    | none => exact .inl ⟨rfl, rfl, h⟩
    | some v => exact hv.elim
  · cases vo with
    | none => exact hv.elim
    | some v => cases hv; exact .inr ⟨k, m, rfl, h, rfl⟩

/-- The bounds of a slice expression, both in range. -/
theorem run_bounds {isSlice : Bool} {len cap : Nat} {vlo vhi : Option Value} {l h : Int} (hl : (vlo = none ∧ l = 0) ∨ ∃ k, vlo = some (.int k l)) (hh : (vhi = none ∧ h = len) ∨ ∃ k, vhi = some (.int k h))
    (h0 : 0 ≤ l) (h1 : l ≤ h) (h2 : h ≤ cap) : (Instr.sliceBounds isSlice len cap vlo vhi none).run P w = .ok (l.toNat, h.toNat, cap) w := by
  obtain ⟨l, rfl⟩ := Int.eq_ofNat_of_zero_le h0
  obtain ⟨h, rfl⟩ := Int.eq_ofNat_of_zero_le (show (0 : Int) ≤ h by omega)
  have a1 : l ≤ h := by omega
  have a2 : h ≤ cap := by omega
  rcases hl with ⟨rfl, hl⟩ | ⟨k, rfl⟩ <;> rcases hh with ⟨rfl, hh⟩ | ⟨k', rfl⟩
  · have : h = len := by omega
    have : l = 0 := by omega
    subst_vars
    simp [Instr.sliceBounds]
  · have : l = 0 := by omega
    subst_vars
    simp [Instr.sliceBounds, Instr.sliceBound, asIntOf, a2]
  · have : h = len := by omega
    subst_vars
    simp [Instr.sliceBounds, Instr.sliceBound, asIntOf, a1]
  · simp [Instr.sliceBounds, Instr.sliceBound, asIntOf, a1, a2]

theorem run_sliceAt {t el : TypeId} {j : TI} (hu : P.underlying t = some (.slice el)) (hj : tiOf P el = some j) {a : Option Addr} {len cap : Nat} {vlo vhi : Option Value} {l h : Int} (hl : (vlo = none ∧ l = 0) ∨ ∃ k, vlo = some (.int k l)) (hh : (vhi = none ∧ h = len) ∨ ∃ k, vhi = some (.int k h))
    (h0 : 0 ≤ l) (h1 : l ≤ h) (h2 : h ≤ cap) : (Instr.sliceAt t (.slice a len cap) vlo vhi none).run P w = .ok (.slice (if cap = l.toNat then a else a.map (·.add (l.toNat * j.cells))) (h.toNat - l.toNat) (cap - l.toNat)) w := by
  simp [Instr.sliceAt, run_underlying hu, Instr.slice, run_bounds hl hh h0 h1 h2, run_sizeOf' hj]

theorem bnd2 {w A ι n dlo dhi vlo vhi lo hi} {Kb : Int → Int → Prop} (hlo : VRo w A ι n vlo lo) (hhi : VRo w A ι n vhi hi) (h : bndA dlo lo fun l => bndA dhi hi fun h => Kb l h) :
    ∃ l h, ((vlo = none ∧ l = dlo) ∨ ∃ k, vlo = some (.int k l)) ∧ ((vhi = none ∧ hi = none ∧ h = dhi) ∨ ∃ k, vhi = some (.int k h)) ∧ Kb l h := by
  rcases hlo.bnd h with ⟨g1, _, g2⟩ | ⟨k, m, g1, g2, _⟩
  · rcases hhi.bnd g2 with ⟨f1, f0, f2⟩ | ⟨k', m', f1, f2, _⟩
    · exact ⟨_, _, .inl ⟨g1, rfl⟩, .inl ⟨f1, f0, rfl⟩, f2⟩
    · exact ⟨_, _, .inl ⟨g1, rfl⟩, .inr ⟨_, f1⟩, f2⟩
  · rcases hhi.bnd g2 with ⟨f1, f0, f2⟩ | ⟨k', m', f1, f2, _⟩
    · exact ⟨_, _, .inr ⟨_, g1⟩, .inl ⟨f1, f0, rfl⟩, f2⟩
    · exact ⟨_, _, .inr ⟨_, g1⟩, .inr ⟨_, f1⟩, f2⟩

theorem sliceOs_sound (hr : Real w A ι σ) (he : ∀ i, VR w A ι σ.n (τ i) (e i)) {t el : TypeId} {vx : Value} {id off len : Nat} {l h : Int} {vlo vhi : Option Value} (hx : VR w A ι σ.n vx (.os id off len))
    (hu : P.underlying t = some (.slice el)) (hl : (vlo = none ∧ l = 0) ∨ ∃ k, vlo = some (.int k l)) (hh : (vhi = none ∧ h = len) ∨ ∃ k, vhi = some (.int k h)) (g : sliceOsA P el id off len l h e σ K) :
    Ran P (Instr.sliceAt t vx vlo vhi none) τ w A ι σ K := by
  obtain ⟨h0, h1, h2, h3, hK⟩ := g
  have hj : ∃ j, tiOf P el = some j ∧ ∀ wd rows, (σ.h id = .flat wd rows ∨ σ.h id = .deep wd rows) → j.cells = wd := by
    cases hB : σ.h id with
    | dead => simp [hB] at h3
    | flat wd rows =>
      rw [hB] at h3
      obtain ⟨j, hj, h4⟩ := withTI_spec h3
      exact ⟨j, hj, fun wd' rows' h => by rcases h with h | h <;> cases h; exact h4⟩
    | deep wd rows =>
      rw [hB] at h3
      obtain ⟨j, hj, h4⟩ := withTI_spec h3
      exact ⟨j, hj, fun wd' rows' h => by rcases h with h | h <;> cases h; exact h4⟩
  obtain ⟨j, hj, hjw⟩ := hj
  obtain ⟨l, rfl⟩ := Int.eq_ofNat_of_zero_le h0
  obtain ⟨h, rfl⟩ := Int.eq_ofNat_of_zero_le (show (0 : Int) ≤ h by omega)
  simp only [Int.toNat_natCast] at hK
  rw [show ((h : Int) - (l : Int)).toNat = h - l by omega] at hK
  cases hx with
  | @os _ _ _ _ cap hn hv hcap hlc =>
    refine ⟨_, w, run_sliceAt hu hj hl hh h0 h1 (by omega), Got.same hr he ?_ hK⟩
    simp only [Int.toNat_natCast]
    by_cases hcl : cap = l
    · subst hcl
      rw [if_pos rfl, show h - cap = 0 by omega, Nat.sub_self]
      exact .osz hn
    · have hwd : (ι id).wd = j.cells := by
        have hb := hr.ok id hn
        cases hB : σ.h id with
        | dead => simp [hB] at h3
        | flat wd rows => rw [hB] at hb; rw [hjw wd rows (.inl hB)]; exact hb.1
        | deep wd rows => rw [hB] at hb; rw [hjw wd rows (.inr hB)]; exact hb.1
      rw [if_neg hcl]
      have ha : (⟨(ι id).blk, off * (ι id).wd, none⟩ : Addr).add (l * j.cells) = ⟨(ι id).blk, (off + l) * (ι id).wd, none⟩ := by
        rw [← hwd, Nat.add_mul]; unfold Addr.add; split <;> simp_all
      simp only [Option.map_some, ha]
      exact .os hn hv (by omega) (by omega)
  | @osz _ _ _ a hn =>
    have e1 : l = 0 := by omega
    have e2 : h = 0 := by omega
    subst e1; subst e2
    refine ⟨_, w, run_sliceAt hu hj hl hh h0 h1 (by omega), Got.same hr he ?_ hK⟩
    simp only [Int.toNat_natCast, if_true, Nat.sub_self]
    exact .osz hn

theorem slicePs_sound (hr : Real w A ι σ) (he : ∀ i, VR w A ι σ.n (τ i) (e i)) {t el : TypeId} {vx : Value} {rows : List (List AV)} {l h : Int} {hi mx : Option AV} {vlo vhi vmx : Option Value} (hx : VR w A ι σ.n vx (.ps rows)) (hmx : VRo w A ι σ.n vmx mx)
    (hu : P.underlying t = some (.slice el)) {j : TI} (hj : tiOf P el = some j) (hw : ∀ row ∈ rows, j.cells = row.length) (hl : (vlo = none ∧ l = 0) ∨ ∃ k, vlo = some (.int k l)) (hh : (vhi = none ∧ hi = none ∧ h = rows.length) ∨ ∃ k, vhi = some (.int k h))
    (g : slicePsA P el rows l h hi mx e σ K) : Ran P (Instr.sliceAt t vx vlo vhi vmx) τ w A ι σ K := by
  obtain ⟨h0, h1, h2, hK⟩ := g
  obtain ⟨l, rfl⟩ := Int.eq_ofNat_of_zero_le h0
  obtain ⟨h, rfl⟩ := Int.eq_ofNat_of_zero_le (show (0 : Int) ≤ h by omega)
  cases mx with
  | none =>
    have hvm : vmx = none := by cases vmx <;> simp_all [VRo]
    subst hvm
    have hh' : (vhi = none ∧ (h : Int) = rows.length) ∨ ∃ k, vhi = some (.int k h) := hh.imp (fun g => ⟨g.1, g.2.2⟩) id
    simp only [Int.toNat_natCast] at hK
    rw [show ((h : Int) - (l : Int)).toNat = h - l by omega] at hK
    have hlen : ((rows.drop l).take (h - l)).length = h - l := by simp; omega
    have hget : ∀ (k : Nat) (row : List AV), ((rows.drop l).take (h - l))[k]? = some row → rows[l + k]? = some row := fun k row hk => by
      rw [List.getElem?_take] at hk
      split at hk
      · simpa using hk
      · cases hk
    cases hx with
    | psz =>
      have e2 : h = 0 := by simp at h2; omega
      have e1 : l = 0 := by omega
      subst e1; subst e2
      refine ⟨_, w, run_sliceAt hu hj hl (by simpa using hh') h0 h1 (by omega), Got.same hr he ?_ hK⟩
      simpa using VR.psz
    | @ps _ b off cap _ wd cv hcap hA hwd hc hhv =>
      refine ⟨_, w, run_sliceAt hu hj hl hh' h0 h1 (by omega), Got.same hr he ?_ hK⟩
      simp only [Int.toNat_natCast]
      suffices hs : ∀ n, n = ((rows.drop l).take (h - l)).length → VR w A ι σ.n (.slice (if cap = l then some ⟨b, off, none⟩ else (some (⟨b, off, none⟩ : Addr)).map (·.add (l * j.cells))) n (cap - l)) (.ps ((rows.drop l).take (h - l))) from hs _ hlen.symm
      intro n hn
      subst hn
      by_cases hcl : cap = l
      · subst hcl
        have hz : (rows.drop cap).take (h - cap) = [] := by simp; omega
        rw [if_pos rfl, hz]
        exact .ps 0 (fun _ _ => undef) (by simp) hA (by simp) (by simp) (by simp)
      · rw [if_neg hcl]
        have ha : (⟨b, off, none⟩ : Addr).add (l * j.cells) = ⟨b, off + l * j.cells, none⟩ := by unfold Addr.add; split <;> simp_all
        simp only [Option.map_some, ha]
        refine .ps (cap := cap - l) j.cells (fun i k => cv (l + i) k) (by rw [hlen]; omega) hA (fun i row hi => (hw row (List.mem_of_getElem? (hget i row hi))).symm) (fun i row hi k a ha => ?_) (fun i row hi k a ha => hhv (l + i) row (hget i row hi) k a ha)
        have hrow := hget i row hi
        have e1 : wd = j.cells := (hwd _ _ hrow).symm.trans (hw row (List.mem_of_getElem? hrow)).symm
        have := hc (l + i) row hrow k a ha
        rw [e1, Nat.add_mul, ← Nat.add_assoc, ← Nat.add_assoc] at this
        rw [← Nat.add_assoc]
        exact this
  | some m =>
    obtain ⟨his, hK⟩ := hK
    rcases hh with ⟨_, g, _⟩ | ⟨kh, rfl⟩
    · subst g; cases his
    rcases hmx.bnd hK with ⟨_, g, _⟩ | ⟨k, q, rfl, ⟨rfl, g2, g3⟩, _⟩
    · cases g
    obtain ⟨j', hj', hK2⟩ := withTI_spec g3
    have e1 : h = l := by omega
    subst e1
    have hrun : ∀ (a : Option Addr) (len cap : Nat), h ≤ cap → (Instr.sliceAt t (.slice a len cap) vlo (some (.int kh h)) (some (.int k h))).run P w = .ok (.slice a 0 0) w := by
      intro a len cap hc
      have hlt : (Instr.sliceBounds true len cap vlo (some (.int kh h)) (some (.int k h))).run P w = .ok (h, h, h) w := by
        rcases hl with ⟨rfl, hl⟩ | ⟨k', rfl⟩
        · have : h = 0 := by omega
          subst this
          simp [Instr.sliceBounds, Instr.sliceBound, asIntOf]
        · simp [Instr.sliceBounds, Instr.sliceBound, asIntOf, hc]
      simp [Instr.sliceAt, run_underlying hu, Instr.slice, hlt, run_sizeOf' hj]
    have hfin : ∀ a : Option Addr, Got τ w A ι σ K (.slice a 0 0) w := fun a => by
      refine Got.mk' hr he (hr.make (o := ⟨0, 0, j'.cells, true⟩) (b0 := w.heap.size) ⟨rfl, rfl, rfl, Nat.le_refl _, fun _ _ _ => rfl⟩ nofun (fun h => Nat.lt_irrefl _ h) ?_) (.osz (by simp [St.new])) hK2
      exact ⟨rfl, by simp, by simp, by simp⟩
    cases hx with
    | psz =>
      have e2 : h = 0 := by simp at h2; omega
      exact ⟨_, w, hrun _ _ _ (by omega), hfin _⟩
    | ps wd cv hcap => exact ⟨_, w, hrun _ _ _ (by omega), hfin _⟩

theorem sliceA_sound (hr : Real w A ι σ) (he : ∀ i, VR w A ι σ.n (τ i) (e i)) {t : TypeId} {x : AV} {vx : Value} {lo hi mx : Option AV} {vlo vhi vmx : Option Value} (hx : VR w A ι σ.n vx x)
    (hlo : VRo w A ι σ.n vlo lo) (hhi : VRo w A ι σ.n vhi hi) (hmx : VRo w A ι σ.n vmx mx) (h : sliceA P t x lo hi mx e σ K) : Ran P (Instr.sliceAt t vx vlo vhi vmx) τ w A ι σ K := by
  obtain ⟨i, hi', g⟩ := withTI_spec h
  clear h
  split at g
  · rename_i id off len
    split at g
    case h_2 => exact g.elim
    rename_i el hel
    obtain ⟨hmxn, g⟩ := g
    subst hmxn
    have hvm : vmx = none := by cases vmx <;> simp_all [VRo]
    subst hvm
    obtain ⟨l, h, h1, h2, h3⟩ := bnd2 hlo hhi g
    exact sliceOs_sound hr he hx (slice_of hi' hel) h1 (h2.imp (fun g => ⟨g.1, g.2.2⟩) (fun g => g)) h3
  · rename_i rows
    split at g
    case h_2 => exact g.elim
    rename_i el hel
    obtain ⟨hw, g⟩ := g
    obtain ⟨j, hj, hw⟩ := withTI_spec hw
    obtain ⟨l, h, h1, h2, h3⟩ := bnd2 hlo hhi g
    exact slicePs_sound hr he hx hmx (slice_of hi' hel) hj hw h1 h2 h3
  · rename_i s
    obtain ⟨hs, hmxn, g⟩ := g
    subst hmxn
    have hvm : vmx = none := by cases vmx <;> simp_all [VRo]
    subst hvm
    cases hx
    obtain ⟨inf, d, z, _, hd, _, _, _, _, _, _, _, _, hstr⟩ := tiOf_spec hi'
    rw [hs] at hstr
    cases d <;> simp at hstr
    obtain ⟨l, h, h1, h2, h3, h4, h5, h6⟩ := bnd2 hlo hhi g
    have hb := run_bounds (P := P) (w := w) (isSlice := false) (cap := s.size) h1 (h2.imp (fun g => ⟨g.1, g.2.2⟩) (fun g => g)) h3 h4 h5
    exact ⟨_, w, by simp [Instr.sliceAt, run_underlying hd, Instr.slice, hb], Got.same hr he .lit h6⟩
  · exact g.elim

end
end Go.Proofs.Qqz
namespace Go.Proofs.Qqz
open Go

section
variable {P : Program} {τ : Nat → Value} {w : World} {A : Nat → Prop} {ι : Owns} {σ : St} {e : Env} {K : KT}

/-- The cells of rows, one behind the other, in memory from an offset on. -/
def CellsAt (w : World) (A : Nat → Prop) (ι : Owns) (b o wd : Nat) (rows : List (List AV)) : Prop :=
  ∀ (i : Nat) (row : List AV), rows[i]? = some row → ∀ (j : Nat) (a : AV), row[j]? = some a → ∃ u, w.cell? ⟨b, o + (i * wd + j), none⟩ = some u ∧ VR w A ι 0 u a

theorem rowsOf_spec (hr : Real w A ι σ) {y : AV} {vy : Value} (hy : VR w A ι σ.n vy y) {new : List (List AV)} (h : rowsOf σ y = some new) {wd : Nat} (hwd : ∀ row ∈ new, row.length = wd) :
    ∃ a c, vy = .slice a new.length c ∧ (new = [] ∨ ∃ b o, a = some ⟨b, o, none⟩ ∧ CellsAt w A ι b o wd new) := by
  unfold rowsOf at h
  split at h
  · cases h
    cases hy with
    | @psz _ a => exact ⟨a, 0, rfl, .inl rfl⟩
    | @ps _ b off cap _ wd' cv hcap hA hw hc hh =>
      refine ⟨_, _, rfl, ?_⟩
      cases new with
      | nil => exact .inl rfl
      | cons r0 rs =>
        have : wd' = wd := (hw 0 r0 rfl).symm.trans (hwd r0 (by simp))
        subst this
        exact .inr ⟨b, off, rfl, fun i row hi j a ha => ⟨_, hc i row hi j a ha, hh i row hi j a ha⟩⟩
  · cases h
    cases hy
    exact ⟨none, 0, rfl, .inl rfl⟩
  · rename_i id off len
    split at h
    case h_2 => cases h
    rename_i wd' rows hB
    split at h
    case isFalse => cases h
    rename_i hle
    cases h
    have hlen : ((rows.drop off).take len).length = len := by simp; omega
    cases hy with
    | @os _ _ _ _ cap hn hv hcap hlc =>
      refine ⟨_, cap, by rw [hlen], ?_⟩
      by_cases hz : (rows.drop off).take len = []
      · exact .inl hz
      · right
        have hb := hr.ok id hn
        rw [hB] at hb
        obtain ⟨g1, g2, g3, g4⟩ := hb
        have hget : ∀ (k : Nat) (row : List AV), ((rows.drop off).take len)[k]? = some row → rows[off + k]? = some row := fun k row hk => by
          rw [List.getElem?_take] at hk
          split at hk
          · simpa using hk
          · cases hk
        refine ⟨_, _, rfl, fun i row hi j a ha => ?_⟩
        have hrow := hget i row hi
        have e1 : wd' = wd := (g3 _ _ hrow).symm.trans (hwd row (List.mem_of_getElem? hi))
        obtain ⟨u, h1, h2⟩ := RowsOk.rowAt ⟨g1, g2, g3, g4⟩ hv hrow j a ha
        refine ⟨u, ?_, h2⟩
        rw [g1, e1] at h1 ⊢
        rw [Nat.add_mul, Nat.add_assoc] at h1
        exact h1
    | @osz _ _ _ a hn => exact ⟨a, 0, by rw [hlen], .inl (List.eq_nil_of_length_eq_zero hlen)⟩
  · cases h

/-- The values of such cells. -/
theorem CellsAt.vals {b o wd : Nat} {rows : List (List AV)} (h : CellsAt w A ι b o wd rows) (hwd : ∀ row ∈ rows, row.length = wd) :
    ∃ f : Nat → Value, (∀ m, m < rows.length * wd → w.cell? ⟨b, o + m, none⟩ = some (f m)) ∧ ∀ (i : Nat) (row : List AV), rows[i]? = some row → ∀ (j : Nat) (a : AV), row[j]? = some a → VR w A ι 0 (f (i * wd + j)) a := by
  refine ⟨fun m => (w.cell? ⟨b, o + m, none⟩).getD undef, fun m hm => ?_, fun i row hi j a ha => ?_⟩
  · have hw : 0 < wd := Nat.pos_of_ne_zero (fun h0 => by subst h0; simp at hm)
    have hi : m / wd < rows.length := (Nat.div_lt_iff_lt_mul hw).2 hm
    have hri : rows[m / wd]? = some rows[m / wd] := List.getElem?_eq_getElem hi
    have hj : m % wd < rows[m / wd].length := by rw [hwd _ (List.getElem_mem _)]; exact Nat.mod_lt _ hw
    obtain ⟨u, h1, _⟩ := h _ _ hri _ _ (List.getElem?_eq_getElem hj)
    rw [show m / wd * wd + m % wd = m by rw [Nat.mul_comm]; exact Nat.div_add_mod m wd] at h1
    simp [h1]
  · obtain ⟨u, h1, h2⟩ := h i row hi j a ha
    simpa [h1] using h2

theorem lt_mul_of {i j n wd : Nat} (hi : i < n) (hj : j < wd) : i * wd + j < n * wd := by
  have : (i + 1) * wd ≤ n * wd := Nat.mul_le_mul_right _ hi
  rw [Nat.add_mul] at this
  omega

/-- The appended cells, as the run reads them. -/
theorem run_first (hr : Real w A ι σ) {y : AV} {vy : Value} (hy : VR w A ι σ.n vy y) {new : List (List AV)} (h : rowsOf σ y = some new) {wd : Nat} (hwd : ∀ row ∈ new, row.length = wd) :
    ∃ (a : Option Addr) (c : Nat) (news : List Value), vy = .slice a new.length c ∧ news.length = new.length * wd ∧ (∀ (i : Nat) (row : List AV), new[i]? = some row → ∀ (j : Nat) (a : AV), row[j]? = some a → ∃ u, news[i * wd + j]? = some u ∧ VR w A ι 0 u a) ∧
      ∀ w' : World, w'.heap = w.heap → (Builtin.firstCells wd new.length (.slice a new.length c)).run P w' = .ok news.toArray w' := by
  obtain ⟨a, c, rfl, h1⟩ := rowsOf_spec hr hy h hwd
  rcases h1 with rfl | ⟨b, o, rfl, h1⟩
  · refine ⟨a, c, [], rfl, by simp, by simp, fun w' _ => ?_⟩
    cases a <;> simp [Builtin.firstCells, loadCells, loadCellsFrom]
  · obtain ⟨f, h2, h3⟩ := h1.vals hwd
    refine ⟨_, c, (List.range (new.length * wd)).map f, rfl, by simp, fun i row hi j a ha => ⟨f (i * wd + j), ?_, h3 i row hi j a ha⟩, fun w' hw' => ?_⟩
    · have hil : i < new.length := (List.getElem?_eq_some_iff.1 hi).1
      have hjl : j < wd := by rw [← hwd row (List.mem_of_getElem? hi)]; exact (List.getElem?_eq_some_iff.1 ha).1
      have := lt_mul_of hil hjl
      simp [this]
    · have hl := run_loadCells (P := P) w' ⟨b, o, none⟩ (new.length * wd) f (fun m hm => by
        rw [show (⟨b, o, none⟩ : Addr).add m = ⟨b, o + m, none⟩ by unfold Addr.add; split <;> simp_all]
        rw [← h2 m hm]
        simp [World.cell?, hw'])
      simp [Builtin.firstCells, hl]

/-- What the append writes into a new array. -/
theorem run_grow {t t2 el e2 : TypeId} {j : TI} (hu : P.underlying t = some (.slice el)) (hu2 : P.underlying t2 = some (.slice e2)) (hj : tiOf P el = some j) {z : Value} (hz : (zeroValue el).run P w.drew = .ok z w.drew)
    {base xa : Option Addr} {sLen sCap n c : Nat} {olds news : List Value} (hfo : (Builtin.firstCells j.cells sLen (.slice base sLen sCap)).run P w.drew = .ok olds.toArray w.drew)
    (hfn : (Builtin.firstCells j.cells n (.slice xa n c)).run P w.drew = .ok news.toArray w.drew) (hg : sCap < sLen + n) (h32 : sLen + n ≤ 4294967296) (hby : j.bytes ≤ 4096) {ty : TypeId} :
    (Builtin.append_ #[t, t2] ty #[.slice base sLen sCap, .slice xa n c]).run P w =
      .ok (.slice (some ⟨w.heap.size, 0, none⟩) (sLen + n) (grownCap w (sLen + n) sCap el))
        (w.drew.alloc (.cells (olds.toArray ++ news.toArray ++ Builtin.zeroCells z.cells (grownCap w (sLen + n) sCap el - (sLen + n))) el)) := by
  obtain ⟨inf, d, z0, hinf, _, _, _, _, hbytes, _⟩ := tiOf_spec hj
  have hn : ¬ (sLen + n ≤ sCap) := by omega
  have h63' : ¬ (9223372036854775807 < ((sLen : Int) + (n : Int))) := by omega
  have hfit : (sLen + n) * inf.bytes ≤ 140737488355328 := by
    have : (sLen + n) * inf.bytes ≤ 4294967296 * 4096 := Nat.mul_le_mul h32 (by omega)
    omega
  have h48' : ¬ (281474976710656 < Builtin.nextslicecap (sLen + n) sCap * inf.bytes) := by have := growslice_fits hg hfit; omega
  simp [Builtin.append_, run_underlying hu, run_underlying hu2, run_sizeOf' hj, typeInfo, hz, hinf, Builtin.lenOf, hn, h63', h48', Question.forced, hfn, hfo, newRow, grownCap]
  congr 2
  apply Array.ext'
  simp [List.append_assoc]

/-- What the append writes into the same array. -/
theorem run_room {t t2 el e2 : TypeId} {j : TI} (hu : P.underlying t = some (.slice el)) (hu2 : P.underlying t2 = some (.slice e2)) (hj : tiOf P el = some j)
    {g sLen sCap n c : Nat} {xa : Option Addr} {news : List Value} (hfn : (Builtin.firstCells j.cells n (.slice xa n c)).run P w = .ok news.toArray w) (hroom : sLen + n ≤ sCap) {ty el2 : TypeId} {cur : Array Value} (hg : w.heap[g]? = some (.cells cur el2 (0, 0)))
    (hfit : sLen * j.cells + news.length ≤ cur.size) (h1 : ∀ u ∈ news, u.oneCell' = true) :
    (Builtin.append_ #[t, t2] ty #[.slice (some ⟨g, 0, none⟩) sLen sCap, .slice xa n c]).run P w =
      .ok (.slice (some ⟨g, 0, none⟩) (sLen + n) sCap) (w.setRow g (cur.toList.take (sLen * j.cells) ++ news ++ cur.toList.drop (sLen * j.cells + news.length)).toArray) := by
  have hst := run_storeCells_at P g (sLen * j.cells) el2 news 0 cur w hg (by simpa using hfit) h1
  simp only [Nat.add_zero] at hst
  simp [Builtin.append_, run_underlying hu, run_underlying hu2, run_sizeOf' hj, Builtin.lenOf, hroom, hfn, Addr.add_lit, hst]

theorem zeroCells_size (z : Array Value) (n : Nat) : (Builtin.zeroCells z n).size = n * z.size := by simp [Builtin.zeroCells]

theorem setRow_near (w : World) (g : Nat) (cs : Array Value) : Near w (w.setRow g cs) g := near_setRow w g cs

/-- A block goes by a new name. -/
theorem Real.move (hr : Real w A ι σ) {id : Nat} (hid : id < σ.n) : Real w A (fun k => if k = σ.n then ι id else ι k) ((σ.put id .dead).new (σ.h id)) ∧ Ext w A ι σ w A (fun k => if k = σ.n then ι id else ι k) ((σ.put id .dead).new (σ.h id)) := by
  have hι : ∀ k, k < σ.n → (if k = σ.n then ι id else ι k) = ι k := fun k hk => if_neg (by omega)
  -- the older name of a name
  let f : Nat → Nat := fun k => if k = σ.n then id else k
  have hf : ∀ k, k < σ.n + 1 → ((((σ.put id .dead).new (σ.h id)).h k).live = true) → f k < σ.n ∧ (σ.h (f k)).live = true ∧ (if k = σ.n then ι id else ι k) = ι (f k) := by
    intro k hk hl
    simp only [St.new, St.put] at hl
    by_cases hkn : k = σ.n
    · simp only [hkn, if_true] at hl
      simp only [f, hkn, if_true]
      exact ⟨hid, hl, trivial⟩
    · simp only [hkn, if_false] at hl
      simp only [f, hkn, if_false]
      by_cases hki : k = id
      · simp [hki, Blk.live] at hl
      · rw [if_neg hki] at hl
        exact ⟨by omega, hl, trivial⟩
  have hfi : ∀ k k', k < σ.n + 1 → k' < σ.n + 1 → ((((σ.put id .dead).new (σ.h id)).h k).live = true) → ((((σ.put id .dead).new (σ.h id)).h k').live = true) → f k = f k' → k = k' := by
    intro k k' hk hk' hl hl' he
    simp only [St.new, St.put] at hl hl'
    simp only [f] at he
    by_cases hkn : k = σ.n <;> by_cases hkn' : k' = σ.n
    · omega
    · simp only [hkn, if_true, hkn', if_false] at he hl'
      simp [← he, Blk.live] at hl'
    · simp only [hkn, if_false, hkn', if_true] at he hl
      simp [he, Blk.live] at hl
    · simp only [hkn, if_false, hkn'] at he; exact he
  have hlv : ∀ b, Live (fun k => if k = σ.n then ι id else ι k) ((σ.put id .dead).new (σ.h id)) b → Live ι σ b := by
    rintro b ⟨k, h1, h2, h3, h4⟩
    obtain ⟨g1, g2, g3⟩ := hf k h1 h2
    simp only [g3] at h3 h4
    exact ⟨f k, g1, g2, h3, h4⟩
  refine ⟨⟨fun k hk => ?_, fun i j hi hj h1 h2 h3 h4 h5 => ?_, fun b hb hb' => hr.away b hb (hlv b hb'), hr.inA, fun k hk => ?_⟩, ⟨rfl, rfl, rfl, Nat.le_refl _, by simp [St.new, St.put], hι, fun _ h => h, fun _ _ _ => rfl, fun b hb => .inl (hlv b hb), fun b hb => .inl hb⟩⟩
  · have hm : ∀ (o : Own) (B : Blk), BlkOk w A ι σ.n o B → BlkOk w A (fun k => if k = σ.n then ι id else ι k) (σ.n + 1) o B := fun o B h => h.mono (by omega) (fun _ h => h) (fun _ _ => rfl) hι (fun _ _ => rfl)
    simp only [St.new, St.put] at hk ⊢
    by_cases hkn : k = σ.n
    · simp only [hkn, if_true]; exact hm _ _ (hr.ok id hid)
    · simp only [hkn, if_false]
      by_cases hki : k = id
      · simp [hki, BlkOk]
      · rw [if_neg hki]; exact hm _ _ (hr.ok k (by omega))
  · obtain ⟨a1, a2, a3⟩ := hf i hi h1
    obtain ⟨b1, b2, b3⟩ := hf j hj h2
    simp only [a3] at h3 h5
    simp only [b3] at h4 h5
    exact hfi i j hi hj h1 h2 (hr.inj _ _ a1 b1 a2 b2 h3 h4 h5)
  · simp only [St.new, St.put] at hk ⊢
    have h1 : k ≠ σ.n := by omega
    have h2 : k ≠ id := by omega
    simp only [h1, h2, if_false]
    exact hr.dead k (by omega)

theorem St.put_put (σ : St) (id : Nat) (B B' : Blk) : (σ.put id B).put id B' = σ.put id B' := by
  simp only [St.put, St.mk.injEq, true_and]
  funext k
  by_cases h : k = id <;> simp [h]

/-- An empty slice without an array is taken for a block of the call's own. -/
theorem Got.virt (hr : Real w A ι σ) (he : ∀ i, VR w A ι σ.n (τ i) (e i)) {a : Option Addr} {σ' : St} (hr' : Real w A ι σ') (hn : σ'.n = σ.n) (hx : Ext w A ι σ w A ι σ') {wd : Nat} (hK : K (.os σ.n 0 0) e (σ'.new (.flat wd []))) : Got τ w A ι σ K (.slice a 0 0) w := by
  have h := hr'.make (w' := w) (o := ⟨0, 0, wd, true⟩) (b0 := w.heap.size) (B := .flat wd []) ⟨rfl, rfl, rfl, Nat.le_refl _, fun _ _ _ => rfl⟩ nofun (fun h => Nat.lt_irrefl _ h) ⟨rfl, by simp, by simp, by simp⟩
  refine Got.mk' hr he ⟨h.1, hx.trans h.2⟩ (.osz (by simp [St.new, hn])) hK

theorem appendA_sound (hr : Real w A ι σ) (he : ∀ i, VR w A ι σ.n (τ i) (e i)) {t t2 ty : TypeId} {x y : AV} {vx vy : Value} (hx : VR w A ι σ.n vx x) (hy : VR w A ι σ.n vy y) (h : appendA P t t2 x y e σ K) :
    Ran P (Builtin.append_ #[t, t2] ty #[vx, vy]) τ w A ι σ K := by
  obtain ⟨i, hi, g2, g⟩ := withTI_spec h
  clear h
  obtain ⟨i2, hi2, g2⟩ := withTI_spec g2
  obtain ⟨e2, he2⟩ := Option.isSome_iff_exists.1 g2
  split at g
  case h_2 => exact g.elim
  rename_i el hel
  have hu := slice_of hi hel
  have hu2 := slice_of hi2 he2
  obtain ⟨j, hj, hpos, hzl, hby, g⟩ := withTI_spec g
  split at g
  case h_2 => exact g.elim
  rename_i new hnew
  obtain ⟨hrows, g⟩ := g
  obtain ⟨xa, c, news, rfl, hnl, hnv, hrun⟩ := run_first (P := P) hr hy hnew (fun row hrow => (hrows row hrow).1)
  obtain ⟨z, hz, hzc⟩ := run_zero' (P := P) hj w.drew
  have hzs : z.cells.size = j.cells := by rw [← hzl, ← hzc]; simp
  have hone : ∀ u ∈ news, u.oneCell' = true := by
    intro u hu'
    obtain ⟨m, hm, rfl⟩ := List.getElem_of_mem hu'
    have hi' : m / j.cells < new.length := (Nat.div_lt_iff_lt_mul hpos).2 (by omega)
    have hrow : new[m / j.cells]? = some new[m / j.cells] := List.getElem?_eq_getElem hi'
    have hr' := hrows _ (List.getElem_mem hi')
    have hj' : m % j.cells < new[m / j.cells].length := by rw [hr'.1]; exact Nat.mod_lt _ hpos
    obtain ⟨u, h1, h2⟩ := hnv _ _ hrow _ _ (List.getElem?_eq_getElem hj')
    rw [show m / j.cells * j.cells + m % j.cells = m by rw [Nat.mul_comm]; exact Nat.div_add_mod m _] at h1
    rw [List.getElem?_eq_getElem hm] at h1
    cases h1
    exact h2.isCell (hr'.2 _ (List.getElem_mem _))
  -- a new array holds the rows of the old one, and the new ones
  have grown : ∀ (base : Option Addr) (sLen sCap : Nat) (olds : List Value) (orows : List (List AV)), orows.length = sLen → (∀ row ∈ orows, row.length = j.cells) → olds.length = sLen * j.cells →
      (∀ (i : Nat) (row : List AV), orows[i]? = some row → ∀ (q : Nat) (a : AV), row[q]? = some a → ∃ u, olds[i * j.cells + q]? = some u ∧ VR w A ι 0 u a) →
      (Builtin.firstCells j.cells sLen (.slice base sLen sCap)).run P w.drew = .ok olds.toArray w.drew → sCap < sLen + new.length → sLen + new.length ≤ 4294967296 →
      ∃ v w', (Builtin.append_ #[t, t2] ty #[.slice base sLen sCap, .slice xa new.length c]).run P w = .ok v w' ∧
        ∀ σ', Real w A ι σ' → σ'.n = σ.n → Ext w A ι σ w A ι σ' → K (.os σ.n 0 (sLen + new.length)) e (σ'.new (.flat j.cells (orows ++ new))) → Got τ w A ι σ K v w' := by
    intro base sLen sCap olds orows hol how hoc hov hfo hcap h32
    refine ⟨_, _, run_grow hu hu2 hj hz hfo (hrun _ rfl) hcap h32 hby, fun σ' hr' hn' hext hK => ?_⟩
    have hge := grownCap_ge w (sLen + new.length) sCap el
    let arr := olds.toArray ++ news.toArray ++ Builtin.zeroCells z.cells (grownCap w (sLen + new.length) sCap el - (sLen + new.length))
    have hgot := new_block (τ := τ) (w := w) (A := A) (ι := ι) (σ := σ') (e := e) (K := K) (w' := w.drew.alloc (.cells arr el)) (arr := arr) (el := el) (cap := grownCap w (sLen + new.length) sCap el) (wd := j.cells) (rows := orows ++ new)
      (v := .slice (some ⟨w.heap.size, 0, none⟩) (sLen + new.length) (grownCap w (sLen + new.length) sCap el)) (av := .os σ.n 0 (sLen + new.length)) (B := .flat j.cells (orows ++ new)) (n := 0) hr' (fun i => by rw [hn']; exact he i) rfl rfl rfl rfl ?_ ?_ ?_ (Nat.zero_le _) (fun _ _ _ _ _ _ h => h) ?_ ?_ hK
    · obtain ⟨A', ι', σ'', e', av, f1, f2, f3, f4, f5⟩ := hgot
      exact ⟨A', ι', σ'', e', av, f1, hext.trans f2, f3, f4, f5⟩
    · simp only [arr, Array.size_append, List.size_toArray, zeroCells_size, hzs, hoc, hnl, ← Nat.add_mul]
      congr 1
      omega
    · simp [hol]; omega
    · intro k row hk
      rw [List.getElem?_append] at hk
      split at hk
      · exact how row (List.mem_of_getElem? hk)
      · exact (hrows row (List.mem_of_getElem? hk)).1
    · intro k row hk q a ha
      rw [List.getElem?_append] at hk
      split at hk
      · rename_i hlt
        obtain ⟨u, f1, f2⟩ := hov k row hk q a ha
        refine ⟨u, ?_, f2⟩
        have hlt2 := (List.getElem?_eq_some_iff.1 f1).1
        simp only [arr]
        rw [Array.append_assoc, Array.getElem?_append_left (by simpa using hlt2)]
        simpa using f1
      · rename_i hge'
        obtain ⟨u, f1, f2⟩ := hnv _ row hk q a ha
        refine ⟨u, ?_, f2⟩
        have hlt2 := (List.getElem?_eq_some_iff.1 f1).1
        have e1 : k * j.cells = olds.length + (k - orows.length) * j.cells := by
          rw [hoc, ← hol, ← Nat.add_mul]; congr 1; omega
        simp only [arr]
        rw [Array.getElem?_append_left (by simp; omega), Array.getElem?_append_right (by simp; omega)]
        simp only [List.size_toArray, List.getElem?_toArray]
        rw [show k * j.cells + q - olds.length = (k - orows.length) * j.cells + q by omega]
        exact f1
    · intro A ι' q hq ho
      rw [hn'] at hq ho
      have := VR.os (w := w.drew.alloc (.cells arr el)) (A := A) (ι := ι') (n := q) (id := σ.n) (off := 0) (len := sLen + new.length) (cap := grownCap w (sLen + new.length) sCap el) hq (by rw [ho]) (by rw [ho]; simp) hge
      rw [ho] at this
      simp only [Nat.zero_mul] at this
      exact this
  have first0 : ∀ (a : Option Addr) (w : World), (Builtin.firstCells j.cells 0 (.slice a 0 0)).run P w = .ok ([] : List Value).toArray w := fun a w => by
    cases a <;> simp [Builtin.firstCells, loadCells, loadCellsFrom]
  -- nothing to append to, and nothing to append
  have none0 : ∀ (a : Option Addr), new = [] → (Builtin.append_ #[t, t2] ty #[.slice a 0 0, .slice xa new.length c]).run P w = .ok (.slice a 0 0) w := fun a hn => by
    have hf := hrun w rfl
    subst hn
    have hnews : news = [] := List.eq_nil_of_length_eq_zero (by simpa using hnl)
    subst hnews
    have hs : ∀ (a : Addr) (w : World), (storeCells a []).run P w = .ok () w := fun _ _ => rfl
    cases a <;> simp [Builtin.append_, run_underlying hu, run_underlying hu2, run_sizeOf' hj, Builtin.lenOf, hs] <;> simp_all
  split at g
  · obtain ⟨g1, hK⟩ := g
    cases hx
    by_cases hnew0 : new = []
    · refine ⟨_, _, none0 none hnew0, ?_⟩
      subst hnew0
      exact Got.virt hr he hr rfl (Ext.refl _ _ _ _) hK
    · have hpos' : 0 < new.length := List.length_pos_iff.2 hnew0
      obtain ⟨v, w', h1, h2⟩ := grown none 0 0 [] [] rfl (by simp) (by simp) (by simp) (first0 none _) (by omega) (by omega)
      exact ⟨v, w', h1, h2 σ hr rfl (Ext.refl _ _ _ _) (by simpa using hK)⟩
  · rename_i id off len _
    obtain ⟨hoff, h32, q⟩ := g
    subst hoff
    split at q
    case h_2 => exact q.elim
    rename_i wd rows hB
    obtain ⟨hwd0, hle, hny, hK⟩ := q
    subst hwd0
    have hdrop := hr.drop id
    cases hx with
    | @osz _ _ _ a hn =>
      by_cases hnew0 : new = []
      · refine ⟨_, _, none0 a hnew0, ?_⟩
        subst hnew0
        exact Got.virt hr he hdrop.1 rfl hdrop.2 (by simpa using hK)
      · have hpos' : 0 < new.length := List.length_pos_iff.2 hnew0
        obtain ⟨v, w', h1, h2⟩ := grown a 0 0 [] [] rfl (by simp) (by simp) (by simp) (first0 a _) (by omega) (by omega)
        exact ⟨v, w', h1, h2 (σ.put id .dead) hdrop.1 rfl hdrop.2 (by simpa using hK)⟩
    | @os _ _ _ _ cap hn hv hcap hlc =>
      have hb := hr.ok id hn
      rw [hB] at hb
      obtain ⟨arr, el2, hh, hsz, hwd, hrc⟩ := RowsOk.heap hb hv
      simp only [Nat.zero_mul]
      by_cases hroom : len + new.length ≤ cap
      · -- the same array
        have hfit : len * j.cells + news.length ≤ arr.size := by
          rw [hnl, hsz, ← Nat.add_mul]; exact Nat.mul_le_mul_right _ (by omega)
        refine ⟨_, _, run_room hu hu2 hj (hrun w rfl) hroom hh hfit hone, ?_⟩
        have hlive : (σ.h id).live = true := by simp [hB, Blk.live]
        have hlt : len * j.cells ≤ arr.toList.length := by simp; omega
        have hw := hr.write (B := .flat j.cells (rows.take len ++ new)) hn hlive hv (near_setRow w (ι id).blk (arr.toList.take (len * j.cells) ++ news ++ arr.toList.drop (len * j.cells + news.length)).toArray) (by
          obtain ⟨b1, b2, b3, b4⟩ := hb
          rw [hv] at b4
          simp only [Bool.false_eq_true, if_false] at b4
          obtain ⟨arr', el', b5, b6, b7⟩ := b4
          rw [hh] at b5
          cases b5
          have hA' : ∀ b, A b → (w.setRow (ι id).blk (arr.toList.take (len * j.cells) ++ news ++ arr.toList.drop (len * j.cells + news.length)).toArray).heap[b]? = w.heap[b]? := fun b hb' => setRow_other w _ _ _ (fun hbe => hr.away b hb' ⟨id, hn, hlive, hv, hbe.symm⟩)
          refine ⟨b1, by simp; omega, fun k row hk => ?_, ?_⟩
          · rw [List.getElem?_append] at hk
            split at hk
            · rw [List.getElem?_take] at hk
              split at hk
              · exact b3 k row hk
              · cases hk
            · exact (hrows row (List.mem_of_getElem? hk)).1
          · rw [hv]
            simp only [Bool.false_eq_true, if_false]
            refine ⟨_, el2, setRow_heap w _ _ _ _ _ hh, ?_, fun k row hk q a ha => ?_⟩
            · have e1 := List.length_take_of_le (l := arr.toList) (i := len * j.cells) hlt
              have e2 : arr.toList.length = arr.size := by simp
              simp only [List.size_toArray, List.length_append, e1, List.length_drop]
              omega
            · have hlen' : (rows.take len).length = len := by simp; omega
              simp only [List.getElem?_toArray]
              rw [getElem?_splice _ _ _ _ (by simpa using hfit)]
              rw [List.getElem?_append, hlen'] at hk
              split at hk
              · rename_i hkl
                rw [List.getElem?_take, if_pos hkl] at hk
                obtain ⟨u, f1, f2⟩ := b7 k row hk q a ha
                have hq : q < j.cells := by rw [← b3 k row hk]; exact (List.getElem?_eq_some_iff.1 ha).1
                have := lt_mul_of hkl hq
                rw [if_pos this]
                exact ⟨u, by simpa using f1, f2.mono (Nat.le_refl _) (fun _ h => h) hA' (fun _ _ => rfl)⟩
              · rename_i hkl
                obtain ⟨u, f1, f2⟩ := hnv _ row hk q a ha
                have hlt2 := (List.getElem?_eq_some_iff.1 f1).1
                have e1 : k * j.cells = len * j.cells + (k - len) * j.cells := by rw [← Nat.add_mul]; congr 1; omega
                rw [if_neg (by omega), if_pos (by omega)]
                exact ⟨u, by rw [show k * j.cells + q - len * j.cells = (k - len) * j.cells + q by omega]; exact f1, f2.mono (Nat.le_refl _) (fun _ h => h) hA' (fun _ _ => rfl)⟩)
        have hmv := hw.1.move (id := id) hn
        have hst : ((σ.put id (.flat j.cells (rows.take len ++ new))).put id .dead).new ((σ.put id (.flat j.cells (rows.take len ++ new))).h id) = (σ.put id .dead).new (.flat j.cells (rows.take len ++ new)) := by
          rw [St.put_put]; simp [St.put]
        rw [hst] at hmv
        refine Got.mk' hr he ⟨hmv.1, hw.2.trans hmv.2⟩ ?_ hK
        have := VR.os (w := w.setRow (ι id).blk (arr.toList.take (len * j.cells) ++ news ++ arr.toList.drop (len * j.cells + news.length)).toArray) (A := A) (ι := fun k => if k = σ.n then ι id else ι k) (n := σ.n + 1) (id := σ.n) (off := 0) (len := len + new.length) (cap := cap) (by omega) (by simpa using hv) (by simpa using hcap) hroom
        simp only [if_true, Nat.zero_mul] at this
        exact this
      · -- a new array
        have hro : rowsOf σ (.os id 0 len) = some (rows.take len) := by simp [rowsOf, hB, hle]
        have hrl : ∀ row ∈ rows.take len, row.length = j.cells := fun row hrow => by
          obtain ⟨k, hk⟩ := List.getElem?_of_mem (List.mem_of_mem_take hrow)
          exact hb.2.2.1 k row hk
        have hlen' : (rows.take len).length = len := by simp; omega
        obtain ⟨a', c', olds, f1, f2, f3, f4⟩ := run_first (P := P) hr (VR.os (w := w) (A := A) (ι := ι) (n := σ.n) hn hv hcap hlc) hro hrl
        rw [hlen'] at f1 f2 f4
        cases f1
        simp only [Nat.zero_mul] at f4
        obtain ⟨v, w', h1, h2⟩ := grown _ len cap olds (rows.take len) hlen' hrl f2 f3 (f4 _ rfl) (by omega) h32
        exact ⟨v, w', h1, h2 (σ.put id .dead) hdrop.1 rfl hdrop.2 hK⟩
  · exact g.2.elim
  · exact g.elim

end
end Go.Proofs.Qqz
namespace Go.Proofs.Qqz
open Go

section
variable {P : Program} {τ : Nat → Value} {w : World} {A : Nat → Prop} {ι : Owns} {σ : St} {e : Env} {K : KT}

theorem foldl_set (off : Nat) : ∀ (L : List Value) (s : Nat) (cells : Array Value), off + s + L.length ≤ cells.size →
    (((L.zipIdx s).foldl (fun (cs : Array Value) (p : Value × Nat) => cs.setIfInBounds (off + p.2) p.1) cells).size = cells.size) ∧
    ∀ m, ((L.zipIdx s).foldl (fun (cs : Array Value) (p : Value × Nat) => cs.setIfInBounds (off + p.2) p.1) cells)[m]? = if off + s ≤ m ∧ m < off + s + L.length then L[m - (off + s)]? else cells[m]?
  | [], s, cells, _ => by
    refine ⟨rfl, fun m => ?_⟩
    simp only [List.zipIdx_nil, List.foldl_nil, List.length_nil, Nat.add_zero]
    rw [if_neg (by omega)]
  | x :: L, s, cells, h => by
    simp only [List.length_cons] at h
    obtain ⟨h1, h2⟩ := foldl_set off L (s + 1) (cells.setIfInBounds (off + s) x) (by simp; omega)
    simp only [List.zipIdx_cons, List.foldl_cons]
    refine ⟨by rw [h1]; simp, fun m => ?_⟩
    rw [h2 m]
    simp only [List.length_cons]
    by_cases hm : m = off + s
    · subst hm
      rw [if_neg (by omega), if_pos (by omega)]
      rw [Array.getElem?_setIfInBounds_self_of_lt (by omega)]
      simp
    · by_cases hm2 : off + (s + 1) ≤ m ∧ m < off + (s + 1) + L.length
      · rw [if_pos hm2, if_pos (by omega)]
        rw [show m - (off + s) = (m - (off + (s + 1))) + 1 by omega, List.getElem?_cons_succ]
      · rw [if_neg hm2, if_neg (by omega), Array.getElem?_setIfInBounds_ne (by omega)]

/-- Parts of a literal and what they read as. -/
def PartsR (w : World) (A : Nat → Prop) (ι : Owns) (n : Nat) : List (Nat × Value) → List (Nat × AV) → Prop
  | [], [] => True
  | p :: ps, q :: qs => p.1 = q.1 ∧ VR w A ι n p.2 q.2 ∧ PartsR w A ι n ps qs
  | _, _ => False

def CellsR (w : World) (A : Nat → Prop) (ι : Owns) (n : Nat) (cells : Array Value) (l : List AV) : Prop :=
  cells.size = l.length ∧ ∀ (m : Nat) (v : Value) (a : AV), cells[m]? = some v → l[m]? = some a → VR w A ι n v a

theorem fill_rel {n : Nat} {place placeA : Nat → Option (Nat × Nat)} (hp : ∀ i q, placeA i = some q → place i = some q) : ∀ (parts : List (Nat × Value)) (partsA : List (Nat × AV)) (cells : Array Value) (l l' : List AV),
    PartsR w A ι n parts partsA → CellsR w A ι n cells l → fillA placeA l partsA = some l' → ∃ cells', Instr.fill place cells parts = some cells' ∧ CellsR w A ι n cells' l'
  | [], [], cells, l, l', _, hc, h => by
    simp only [fillA, Option.some.injEq] at h
    subst h
    exact ⟨cells, rfl, hc⟩
  | (i, v) :: ps, (i', a) :: qs, cells, l, l', hpr, hc, h => by
    obtain ⟨h1, h2, h3⟩ := hpr
    simp only at h1
    subst h1
    simp only [fillA] at h
    split at h
    case h_2 => cases h
    rename_i off size cs hpl hcs
    split at h
    case isFalse => cases h
    rename_i hcond
    obtain ⟨hcl, hfit⟩ := hcond
    obtain ⟨hvl, hvr⟩ := avCells_spec h2 hcs
    have hvs : v.cells.size = cs.length := by rw [← hvl]; simp
    have hcz := hc.1
    obtain ⟨f1, f2⟩ := foldl_set off v.cells.toList 0 cells (by rw [hvl]; omega)
    have hfold : v.cells.zipIdx.foldl (fun (cs : Array Value) (p : Value × Nat) => cs.setIfInBounds (off + p.2) p.1) cells = (v.cells.toList.zipIdx 0).foldl (fun (cs : Array Value) (p : Value × Nat) => cs.setIfInBounds (off + p.2) p.1) cells := by
      rw [← Array.foldl_toList, Array.toList_zipIdx]
    have hcr : CellsR w A ι n (v.cells.zipIdx.foldl (fun (cs : Array Value) (p : Value × Nat) => cs.setIfInBounds (off + p.2) p.1) cells) (splice l off cs) := ?hcr
    obtain ⟨cells', g1, g2⟩ := fill_rel hp ps qs _ (splice l off cs) l' h3 hcr h
    · refine ⟨cells', ?_, g2⟩
      have hc2 : (decide (v.cells.size ≠ size) || decide (off + v.cells.size > cells.size)) = false := by
        simp only [Bool.or_eq_false_iff, decide_eq_false_iff_not]
        omega
      simp only [Instr.fill, hp _ _ hpl, hc2]
      exact g1
    case hcr =>
      rw [hfold]
      refine ⟨?_, fun m u b hu hb => ?_⟩
      · rw [f1, hcz]; simp [splice]; omega
      · rw [f2 m] at hu
        rw [splice, getElem?_splice _ _ _ _ (by omega)] at hb
        simp only [Nat.add_zero] at hu
        by_cases hm1 : m < off
        · rw [if_neg (by omega)] at hu
          rw [if_pos hm1] at hb
          exact hc.2 m u b hu hb
        · rw [if_neg hm1] at hb
          by_cases hm2 : m < off + cs.length
          · rw [if_pos (by rw [hvl]; omega)] at hu
            rw [if_pos hm2] at hb
            exact hvr _ u b hu hb
          · rw [if_neg (by rw [hvl]; omega)] at hu
            rw [if_neg hm2] at hb
            exact hc.2 m u b hu hb
  | [], _ :: _, _, _, _, hpr, _, _ => hpr.elim
  | _ :: _, [], _, _, _, hpr, _, _ => hpr.elim

theorem buildA_sound (hr : Real w A ι σ) (he : ∀ i, VR w A ι σ.n (τ i) (e i)) {t : TypeId} {parts : Array (Nat × Value)} {partsA : List (Nat × AV)} (hp : PartsR w A ι σ.n parts.toList partsA) (h : buildA P t partsA e σ K) :
    Ran P (Instr.build t parts) τ w A ι σ K := by
  obtain ⟨i, hi, hne, hall, g⟩ := withTI_spec h
  clear h
  split at g
  case h_2 => exact g.elim
  rename_i cs hcs
  obtain ⟨inf, d, z0, _, hd, _, _, _, _, _, _, hfs, _⟩ := tiOf_spec hi
  obtain ⟨z, hz, hzc⟩ := run_zero' (P := P) hi w
  cases d with
  | struct fs =>
    simp only at hfs
    -- the places of the fields
    have hpl : ∀ (L : List Field), (∀ f ∈ L, (tiOf P f.type).isSome = true) → (L.mapM (fun f => (do pure (f.offset, ← sizeOf f.type) : Sem (Nat × Nat)))).run P w = .ok (L.map fun f => (f.offset, ((tiOf P f.type).map (·.cells)).getD 0)) w := by
      intro L hL
      induction L with
      | nil => simp
      | cons f L ih =>
        obtain ⟨j, hj⟩ := Option.isSome_iff_exists.1 (hL f (by simp))
        have := ih (fun f hf => hL f (by simp [hf]))
        simp only [List.mapM_cons, Sem.run_bind, run_sizeOf' hj, Result.andThen_ok, Sem.run_pure, this]
        simp [hj]
    have hpl' := hpl fs.toList (fun f hf => hall (f.offset, f.type) (by rw [hfs]; exact List.mem_map.2 ⟨f, hf, rfl⟩))
    have hmapM : (fs.mapM (fun f => (do pure (f.offset, ← sizeOf f.type) : Sem (Nat × Nat)))).run P w = .ok (fs.toList.map fun f => (f.offset, ((tiOf P f.type).map (·.cells)).getD 0)).toArray w := by
      rw [Array.mapM_eq_mapM_toList]
      rw [Sem.run_map, hpl']
      rfl
    obtain ⟨cells', g1, g2⟩ := fill_rel (w := w) (A := A) (ι := ι) (n := σ.n) (place := ((fs.toList.map fun f => (f.offset, ((tiOf P f.type).map (·.cells)).getD 0)).toArray[·]?)) (fun k q hq => by
      rw [hfs] at hq
      simp only [List.getElem?_map] at hq
      simp only [List.getElem?_toArray, List.getElem?_map]
      cases hk : fs.toList[k]? with
      | none => simp [hk] at hq
      | some f =>
        simp only [hk, Option.map_some, Option.bind_some] at hq ⊢
        cases hj : tiOf P f.type with
        | none => simp [hj] at hq
        | some j => simp only [hj, Option.map_some, Option.some.injEq] at hq; simp [hq]) parts.toList partsA z.cells (i.zero.map .lit) cs hp ⟨by rw [← hzc]; simp, fun m v a hv ha => by
        rw [← hzc, List.getElem?_map] at ha
        simp only [Array.getElem?_toList, hv, Option.map_some, Option.some.injEq] at ha
        subst ha
        exact .lit⟩ hcs
    refine ⟨.agg cells', w, ?_, Got.same hr he ?_ g⟩
    · simp only [Instr.build, Sem.run_bind, hz, Result.andThen_ok, run_underlying hd, hmapM, Sem.run_pure, g1]
    · have := VR.agg (w := w) (A := A) (ι := ι) (n := σ.n) cells'.toList cs (by simpa using g2.1) (fun m v a hv ha => g2.2 m v a (by simpa using hv) ha)
      simpa using this
  | _ => exact absurd hfs hne

theorem buildSliceA_sound (hr : Real w A ι σ) (he : ∀ i, VR w A ι σ.n (τ i) (e i)) {t : TypeId} {n : Nat} {parts : Array (Nat × Value)} {partsA : List (Nat × AV)} (hp : PartsR w A ι σ.n parts.toList partsA) (h : buildSliceA P t n partsA e σ K) :
    Ran P (Instr.buildSlice t n parts) τ w A ι σ K := by
  obtain ⟨i, hi, g⟩ := withTI_spec h
  clear h
  split at g
  case h_2 => exact g.elim
  rename_i el hel
  obtain ⟨j, hj, hpos, hzl, hsmall, g'⟩ := withTI_spec g
  clear g
  split at g'
  case h_2 => exact g'.elim
  rename_i l hl
  obtain ⟨hflat, hK⟩ := g'
  have hu := slice_of hi hel
  obtain ⟨z, hz, hzc⟩ := run_zero' (P := P) hj w
  let cells0 : Array Value := (Array.range (n * j.cells)).map fun x => if n * j.cells = 0 then default else z.cells[x % z.cells.size]!
  obtain ⟨cells', g1, g2⟩ := fill_rel (w := w) (A := A) (ι := ι) (n := σ.n) (place := fun i => some (i * j.cells, j.cells)) (fun k q hq => by
    split at hq
    · exact hq
    · cases hq) parts.toList partsA cells0 (List.replicate (n * j.cells) .any) l hp ⟨by simp [cells0], fun m v a hv ha => by
      rw [List.getElem?_replicate] at ha
      split at ha
      · cases ha; exact .any
      · cases ha⟩ hl
  have hll : l.length = n * j.cells := by
    have : ∀ (pl : Nat → Option (Nat × Nat)) (ps : List (Nat × AV)) (l l' : List AV), fillA pl l ps = some l' → l'.length = l.length := by
      intro pl ps
      induction ps with
      | nil => intro l l' h; simp only [fillA, Option.some.injEq] at h; rw [h]
      | cons p ps ih =>
        intro l l' h
        obtain ⟨k, a⟩ := p
        simp only [fillA] at h
        split at h
        · split at h
          · rename_i hc
            rw [ih _ _ h]
            simp [splice]; omega
          · cases h
        · cases h
    rw [this _ _ _ _ hl]; simp
  refine ⟨.slice (some ⟨w.heap.size, 0, none⟩) n n, { w with heap := w.heap.push (.cells cells' el) }, ?_, ?_⟩
  · have hs2 : ¬ (16777216 < n * j.cells) := by omega
    by_cases hz0 : n * j.cells = 0
    · have g1' : Instr.fill (fun i => some (i * j.cells, j.cells)) ((Array.range (n * j.cells)).map fun x => (#[] : Array Value)[x % (#[] : Array Value).size]!) parts.toList = some cells' := by
        rw [← g1]; congr 1; simp [cells0, hz0]
      simp only [Instr.buildSlice, Sem.run_bind, run_underlying hu, run_sizeOf' hj, Result.andThen_ok]
      rw [if_neg (by omega)]
      simp only [hz0, if_true, Sem.run_pure, Sem.run_bind, Result.andThen_ok]
      rw [hz0] at g1'
      rw [g1']
      simp [newRow]
    · have g1' : Instr.fill (fun i => some (i * j.cells, j.cells)) ((Array.range (n * j.cells)).map fun x => z.cells[x % z.cells.size]!) parts.toList = some cells' := by
        rw [← g1]; congr 1; simp [cells0, hz0]
      simp only [Instr.buildSlice, Sem.run_bind, run_underlying hu, run_sizeOf' hj, Result.andThen_ok]
      rw [if_neg (by omega)]
      simp only [hz0, if_false, Sem.run_pure, Sem.run_bind, Result.andThen_ok, hz]
      rw [g1']
      simp [newRow]
  · have hcz : cells'.size = n * j.cells := by rw [g2.1, hll]
    have hrows : ∀ (k : Nat) (row : List AV), ((List.range n).map fun i => (l.drop (i * j.cells)).take j.cells)[k]? = some row → k < n ∧ (l.drop (k * j.cells)).take j.cells = row := by
      intro k row hk
      obtain ⟨h1, h2⟩ := List.getElem?_eq_some_iff.1 hk
      simp at h1 h2
      exact ⟨h1, h2⟩
    refine new_block (w' := { w with heap := w.heap.push (.cells cells' el) }) (arr := cells') (el := el) (rows := (List.range n).map fun i => (l.drop (i * j.cells)).take j.cells) (B := .flat j.cells ((List.range n).map fun i => (l.drop (i * j.cells)).take j.cells)) (av := .os σ.n 0 n)
      (cap := n) (wd := j.cells) (n := 0) hr he rfl rfl rfl rfl hcz (by simp) ?_ (Nat.zero_le _) (fun _ _ _ _ _ _ h => h) ?_ (fun A ι' q hq ho => ?_) hK
    · intro k row hk
      obtain ⟨hkn, rfl⟩ := hrows k row hk
      have : (k + 1) * j.cells ≤ n * j.cells := Nat.mul_le_mul_right _ hkn
      rw [Nat.add_mul] at this
      simp [hll]; omega
    · intro k row hk q a ha
      obtain ⟨hkn, rfl⟩ := hrows k row hk
      rw [List.getElem?_take] at ha
      split at ha
      case isFalse => cases ha
      rename_i hq
      rw [List.getElem?_drop] at ha
      have hlt := lt_mul_of hkn hq
      have hv : cells'[k * j.cells + q]? = some (cells'[k * j.cells + q]'(by omega)) := Array.getElem?_eq_getElem (by omega)
      exact ⟨_, hv, (g2.2 _ _ a hv ha).flat (hflat a (List.mem_of_getElem? ha))⟩
    · have := VR.os (w := { w with heap := w.heap.push (.cells cells' el) }) (A := A) (ι := ι') (n := q) (id := σ.n) (off := 0) (len := n) (cap := n) hq (by rw [ho]) (by rw [ho]; simp) (Nat.le_refl _)
      rw [ho] at this
      simp only [Nat.zero_mul] at this
      exact this

end
end Go.Proofs.Qqz
namespace Go.Proofs.Qqz
open Go

def partsE (e : Env) (ps : List (Nat × Operand)) : List (Nat × AV) := ps.map fun p => (p.1, evA e p.2)

def builtinA (P : Program) (b : Builtin) (ts : List TypeId) (xs : List AV) (e : Env) (σ : St) (K : KT) : Prop :=
  match b, ts, xs with
  | .len, [t], [x] => lenA P t x e σ K
  | .append, [t, t2], [x, y] => appendA P t t2 x y e σ K
  | .min, _, [x, y] => minA x y e σ K
  | .max, _, [x, y] => maxA x y e σ K
  | _, _, _ => False

/-- The nil slice reads as no rows. -/
def nlV : Nat → AV → AV
  | 0, x => x
  | k + 1, x =>
    match x with
    | .lit (.slice none 0 0) => .ps []
    | .agg l => .agg (l.map (nlV k))
    | .tup l => .tup (l.map (nlV k))
    | x => x

/-- A call of a function value. -/
def callV (P : Program) (f : AV) (args : List AV) (e : Env) (σ : St) (K : KT) : Prop :=
  match f with
  | .clo g caps => ACall P g ((args ++ caps).map (nlV 3)) e σ K
  | _ => False

def callA (P : Program) (c : Call) (e : Env) (σ : St) (K : KT) : Prop :=
  match c.callee with
  | .value f => callV P (evA e f) (c.args.toList.map (evA e)) e σ K
  | .builtin b => builtinA P b c.argTypes.toList (c.args.toList.map (evA e)) e σ K
  | .invoke _ _ => False

def opA (P : Program) (op : Op) (e : Env) (σ : St) (K : KT) : Prop :=
  match op with
  | .move x => K (evA e x) e σ
  | .assign x => K (evA e x) e σ
  | .pick c a b => pickA (evA e c) (evA e a) (evA e b) e σ K
  | .alloc t => allocA P t e σ K
  | .box _ x => boxA (evA e x) e σ K
  | .build t ps => buildA P t (partsE e ps.toList) e σ K
  | .buildSlice t n ps => buildSliceA P t n (partsE e ps.toList) e σ K
  | .load t a => loadA P t (evA e a) e σ K
  | .store t a x => storeA P t (evA e a) (evA e x) e σ K
  | .nilCheck x => nilCheckA (evA e x) e σ K
  | .binOp op t x y _ => binA P op t (evA e x) (evA e y) e σ K
  | .unOp op _ x => unA op (evA e x) e σ K
  | .convert s d x => (P.underlying s).isSome = true ∧ convA P d (evA e x) e σ K
  | .makeFunc fn first caps => makeFuncA fn (first.toList.map (evA e)) (caps.toList.map (evA e)) e σ K
  | .makeSlice t l c => makeA P t (evA e l) (evA e c) e σ K
  | .slice t x lo hi mx => sliceA P t (evA e x) (lo.map (evA e)) (hi.map (evA e)) (mx.map (evA e)) e σ K
  | .fieldAddr t x f => fieldAddrA P t (evA e x) f e σ K
  | .field t x f => fieldA P t (evA e x) f e σ K
  | .indexAddr t x i => indexAddrA P t (evA e x) (evA e i) e σ K
  | .index t x i => indexA P t (evA e x) (evA e i) e σ K
  | .extract x i => extractA (evA e x) i e σ K
  | .call c => callA P c e σ K
  | _ => False

def gsl (ops : Array Oper) (g : Nat) : Option Tmp := (ops[g]?).bind (·.dst)

mutual
def opsA (P : Program) (ops : Array Oper) : List Oper → (Env → St → Prop) → Env → St → Prop
  | [], Q, e, σ => Q e σ
  | o :: rest, Q, e, σ =>
    match o.guard with
    | none => opA P o.op e σ (fun av e' σ' => opsA P ops rest Q (putE e' o.dst av) σ')
    | some (g, want) =>
      match gsl ops g with
      | none => False
      | some d =>
        match e d with
        | .lit (.bool b) => (b = want → opA P o.op e σ (fun av e' σ' => opsA P ops rest Q (putE e' o.dst av) σ')) ∧ (b = (!want) → opsA P ops rest Q (putE e o.dst (.lit undef)) σ)
        | .lit (.tuple _) => opsA P ops rest Q (putE e o.dst (.lit undef)) σ
        | _ => False
end

/-- What follows an operation. -/
def konA (P : Program) (ops : Array Oper) (dst : Option Tmp) (rest : List Oper) (Q : Env → St → Prop) : KT := fun av e σ => opsA P ops rest Q (putE e dst av) σ

def dstB (N : Nat) (ops : Array Oper) : Bool := ops.toList.all fun o => match o.dst with | some d => Nat.blt d N | none => true

def Rel (a : Act) (w : World) (A : Nat → Prop) (ι : Owns) (e : Env) (σ : St) : Prop :=
  a.defers = [] ∧ Real w A ι σ ∧ ∀ i, VR w A ι σ.n (a.tmps.getD i undef) (e i)

section
variable {P : Program} {w : World} {A : Nat → Prop} {ι : Owns} {σ : St} {e : Env} {K : KT} {a : Act}

theorem ev_VR (he : ∀ i, VR w A ι σ.n (a.tmps.getD i undef) (e i)) (x : Operand) : VR w A ι σ.n (a.eval x) (evA e x) := by
  cases x with
  | tmp t => exact he t
  | const v => exact .lit
  | global g => exact .any
  | func f => exact .clo [] [] rfl (by simp)

theorem parts_R (he : ∀ i, VR w A ι σ.n (a.tmps.getD i undef) (e i)) : ∀ ps : List (Nat × Operand), PartsR w A ι σ.n (ps.map fun p => (p.1, a.eval p.2)) (partsE e ps)
  | [] => trivial
  | p :: ps => ⟨rfl, ev_VR he p.2, parts_R he ps⟩

theorem evs_VRs (he : ∀ i, VR w A ι σ.n (a.tmps.getD i undef) (e i)) (xs : List Operand) : VRs w A ι σ.n (xs.map a.eval) (xs.map (evA e)) :=
  ⟨by simp, fun i v b hv hb => by
    rw [List.getElem?_map] at hv hb
    cases hx : xs[i]? with
    | none => simp [hx] at hv
    | some x => simp [hx] at hv hb; subst hv; subst hb; exact ev_VR he x⟩

theorem nlV_VR {n : Nat} : ∀ (k : Nat) (v : Value) (x : AV), VR w A ι n v x → VR w A ι n v (nlV k x)
  | 0, _, _, h => h
  | k + 1, v, x, h => by
    have ih := fun v x => nlV_VR (n := n) k v x
    have el : ∀ (vs : List Value) (l : List AV), (∀ (i : Nat) (v : Value) (a : AV), vs[i]? = some v → l[i]? = some a → VR w A ι n v a) → ∀ (i : Nat) (v : Value) (a : AV), vs[i]? = some v → (l.map (nlV k))[i]? = some a → VR w A ι n v a := by
      intro vs l hel i v a h1 h2
      rw [List.getElem?_map] at h2
      obtain ⟨x, hx, rfl⟩ := Option.map_eq_some_iff.1 h2
      exact ih _ _ (hel i v x h1 hx)
    unfold nlV
    split
    · cases h; exact .psz
    · cases h with
      | agg vs _ hl hel => exact .agg vs _ (by simpa using hl) (el vs _ hel)
    · cases h with
      | tup vs _ hl hel => exact .tup vs _ (by simpa using hl) (el vs _ hel)
    · exact h

theorem nlVs {vs : List Value} {args : List AV} {n : Nat} (h : VRs w A ι n vs args) (k : Nat) : VRs w A ι n vs (args.map (nlV k)) :=
  ⟨by simpa using h.1, fun i v b hv hb => by
    rw [List.getElem?_map] at hb
    obtain ⟨x, hx, rfl⟩ := Option.map_eq_some_iff.1 hb
    exact nlV_VR k v x (h.2 i v x hv hx)⟩

theorem evo_VRo (he : ∀ i, VR w A ι σ.n (a.tmps.getD i undef) (e i)) (x : Option Operand) : VRo w A ι σ.n (x.map a.eval) (x.map (evA e)) := by
  cases x with
  | none => trivial
  | some x => exact ev_VR he x

theorem andThen_assoc {α β γ : Type} (r : Result α) (f : α → World → Result β) (g : β → World → Result γ) : (r.andThen f).andThen g = r.andThen fun x w => (f x w).andThen g := by
  cases r <;> rfl

theorem wp_of_ran {o : Oper} {s : Sem Value} (hex : (execOp a.eval o).run P w = (s.run P w).andThen fun v w' => .ok (.value v) w') (h : Ran P s (fun i => a.tmps.getD i undef) w A ι σ K)
    {next : Act → World → Prop} {Q : Exit → Act → World → Prop} (hn : ∀ v w', Got (fun i => a.tmps.getD i undef) w A ι σ K v w' → next (a.put o.dst v) w') : o.wp P a w next Q := by
  obtain ⟨v, w', h1, h2⟩ := h
  unfold Oper.wp
  rw [hex, h1]
  exact hn v w' h2

theorem minA_sound {τ : Nat → Value} (hr : Real w A ι σ) (he : ∀ i, VR w A ι σ.n (τ i) (e i)) {x y : AV} {vx vy : Value} {ts : Array TypeId} {ty : TypeId} (hx : VR w A ι σ.n vx x) (hy : VR w A ι σ.n vy y) (h : minA x y e σ K) : Ran P (Builtin.min_ ts ty #[vx, vy]) τ w A ι σ K := by
  unfold minA at h
  split at h
  case h_2 => exact h.elim
  cases hx; cases hy
  exact ⟨_, w, by simp [Builtin.min_, Builtin.min2], Got.same hr he .lit h⟩

theorem maxA_sound {τ : Nat → Value} (hr : Real w A ι σ) (he : ∀ i, VR w A ι σ.n (τ i) (e i)) {x y : AV} {vx vy : Value} {ts : Array TypeId} {ty : TypeId} (hx : VR w A ι σ.n vx x) (hy : VR w A ι σ.n vy y) (h : maxA x y e σ K) : Ran P (Builtin.max_ ts ty #[vx, vy]) τ w A ι σ K := by
  unfold maxA at h
  split at h
  case h_2 => exact h.elim
  cases hx; cases hy
  exact ⟨_, w, by simp [Builtin.max_, Builtin.max2], Got.same hr he .lit h⟩

theorem opA_sound (hr : Real w A ι σ) (he : ∀ i, VR w A ι σ.n (a.tmps.getD i undef) (e i)) {o : Oper} (h : opA P o.op e σ K) {next : Act → World → Prop} {Q : Exit → Act → World → Prop}
    (hn : ∀ v w', Got (fun i => a.tmps.getD i undef) w A ι σ K v w' → next (a.put o.dst v) w') : o.wp P a w next Q := by
  have ev := ev_VR he
  obtain ⟨dst, op, type, pos, after, guard⟩ := o
  cases op <;> simp only [opA] at h
  case move x => exact wp_of_ran (s := pure (a.eval x)) (by simp [execOp]) ⟨_, w, rfl, Got.same hr he (ev x) h⟩ hn
  case assign x => exact wp_of_ran (s := pure (a.eval x)) (by simp [execOp]) ⟨_, w, rfl, Got.same hr he (ev x) h⟩ hn
  case pick c x y =>
    unfold pickA at h
    split at h
    case h_2 => exact h.elim
    rename_i t hc
    have hcv := ev c
    rw [hc] at hcv
    generalize hv : a.eval c = v at hcv
    cases hcv
    cases t with
    | true => exact wp_of_ran (s := pure (a.eval x)) (by simp [execOp, hv, asBool]) ⟨_, w, rfl, Got.same hr he (ev x) (h.1 rfl)⟩ hn
    | false => exact wp_of_ran (s := pure (a.eval y)) (by simp [execOp, hv, asBool]) ⟨_, w, rfl, Got.same hr he (ev y) (h.2 rfl)⟩ hn
  case alloc t => exact wp_of_ran (s := Instr.alloc t true (.tuple #[])) (by simp [execOp]) (allocA_sound hr he h) hn
  case box t x => exact wp_of_ran (s := Instr.box t (a.eval x)) (by simp [execOp]) (boxA_sound hr he (ev x) h) hn
  case build t ps => exact wp_of_ran (by simp [execOp]) (buildA_sound (parts := ps.map fun (i, x) => (i, a.eval x)) hr he (by simpa using parts_R he ps.toList) h) hn
  case buildSlice t n ps => exact wp_of_ran (by simp [execOp]) (buildSliceA_sound (parts := ps.map fun (i, x) => (i, a.eval x)) hr he (by simpa using parts_R he ps.toList) h) hn
  case load t x => exact wp_of_ran (by simp [execOp]) (loadA_sound hr he (ev x) h) hn
  case store t x y =>
    obtain ⟨w', h1, h2⟩ := storeA_sound (P := P) hr he (ev x) (ev y) h
    unfold Oper.wp
    simp only [execOp, Sem.run_bind, h1, Result.andThen_ok, Sem.run_pure]
    exact hn _ w' h2
  case nilCheck x =>
    unfold nilCheckA at h
    have hx := ev x
    split at h
    case h_4 => exact h.elim
    all_goals
      rename_i hxa
      rw [hxa] at hx
      generalize hv : a.eval x = v at hx
      refine wp_of_ran (s := pure v) ?_ ⟨v, w, rfl, Got.same hr he hx (by rw [hxa] at h; exact h)⟩ hn
      cases hx <;> simp [execOp, hv]
  case binOp op t x y yt => exact wp_of_ran (by simp [execOp, andThen_assoc]) (binA_sound (ox := x) (oy := y) hr he (ev x) (ev y) h) hn
  case unOp op t x => exact wp_of_ran (by simp [execOp]) (unA_sound hr he (ev x) h) hn
  case convert s d x => exact wp_of_ran (by simp [execOp]) (convA_sound hr he (ev x) h.1 h.2) hn
  case makeFunc fn first caps =>
    unfold makeFuncA at h
    split at h
    case h_2 => exact h.elim
    rename_i f hf
    have hf' : first = #[] := by
      have : first.toList = [] := by simpa using hf
      exact Array.toList_eq_nil_iff.1 this
    subst hf'
    refine wp_of_ran (s := pure (.func (.func f) #[] (caps.map a.eval))) (by simp [execOp, Instr.makeFunc]) ⟨_, w, rfl, Got.same hr he ?_ h⟩ hn
    have := evs_VRs he caps.toList
    have h2 := VR.clo (w := w) (A := A) (ι := ι) (n := σ.n) (f := f) _ _ this.1 this.2
    have e1 : (caps.toList.map a.eval).toArray = caps.map a.eval := Array.ext' (by simp)
    rw [e1] at h2
    exact h2
  case makeSlice t l c => exact wp_of_ran (by simp [execOp]) (makeA_sound hr he (ev l) (ev c) h) hn
  case slice t x lo hi mx => exact wp_of_ran (by simp [execOp]) (sliceA_sound hr he (ev x) (evo_VRo he lo) (evo_VRo he hi) (evo_VRo he mx) h) hn
  case fieldAddr t x f => exact wp_of_ran (by simp [execOp]) (fieldAddrA_sound hr he (ev x) h) hn
  case field t x f => exact wp_of_ran (by simp [execOp]) (fieldA_sound hr he (ev x) h) hn
  case indexAddr t x i => exact wp_of_ran (by simp [execOp]) (indexAddrA_sound hr he (ev x) (ev i) h) hn
  case index t x i => exact wp_of_ran (by simp [execOp]) (indexA_sound hr he (ev x) (ev i) h) hn
  case extract x i => exact wp_of_ran (by simp [execOp]) (extractA_sound hr he (ev x) h) hn
  case call c =>
    obtain ⟨callee, args, argTypes⟩ := c
    cases callee with
    | invoke => exact h.elim
    | builtin b =>
      simp only [callA] at h
      unfold builtinA at h
      have hargs : ∀ xs : List AV, args.toList.map (evA e) = xs → VRs w A ι σ.n (args.toList.map a.eval) xs := fun xs hx => hx ▸ evs_VRs he args.toList
      have one : ∀ x, args.toList.map (evA e) = [x] → ∃ v, args.map a.eval = #[v] ∧ VR w A ι σ.n v x := fun x hx => by
        have := hargs _ hx
        obtain ⟨l1, l2⟩ := this
        match hq : args.toList.map a.eval, l1 with
        | [v], _ => exact ⟨v, by apply Array.ext'; simpa using hq, l2 0 v x (by rw [hq]; rfl) rfl⟩
      have two : ∀ x y, args.toList.map (evA e) = [x, y] → ∃ v u, args.map a.eval = #[v, u] ∧ VR w A ι σ.n v x ∧ VR w A ι σ.n u y := fun x y hx => by
        have := hargs _ hx
        obtain ⟨l1, l2⟩ := this
        match hq : args.toList.map a.eval, l1 with
        | [v, u], _ => exact ⟨v, u, by apply Array.ext'; simpa using hq, l2 0 v x (by rw [hq]; rfl) rfl, l2 1 u y (by rw [hq]; rfl) rfl⟩
      split at h
      case h_5 => exact h.elim
      · rename_i t x ht hx
        obtain ⟨v, hv, hvr⟩ := one x hx
        have ht' : argTypes = #[t] := Array.ext' (by simpa using ht)
        subst ht'
        exact wp_of_ran (by simp [execOp, resolve, invoke, builtin, hv]) (lenA_sound (ty := type) hr he hvr h) hn
      · rename_i t t2 x y ht hx
        obtain ⟨v, u, hv, hvr, hur⟩ := two x y hx
        have ht' : argTypes = #[t, t2] := Array.ext' (by simpa using ht)
        subst ht'
        exact wp_of_ran (by simp [execOp, resolve, invoke, builtin, hv]) (appendA_sound (ty := type) hr he hvr hur h) hn
      · rename_i x y hx
        obtain ⟨v, u, hv, hvr, hur⟩ := two x y hx
        exact wp_of_ran (by simp [execOp, resolve, invoke, builtin, hv]) (minA_sound (ts := argTypes) (ty := type) hr he hvr hur h) hn
      · rename_i x y hx
        obtain ⟨v, u, hv, hvr, hur⟩ := two x y hx
        exact wp_of_ran (by simp [execOp, resolve, invoke, builtin, hv]) (maxA_sound (ts := argTypes) (ty := type) hr he hvr hur h) hn
    | value f =>
      simp only [callA, callV] at h
      split at h
      case h_2 => exact h.elim
      rename_i g caps hf
      have hfv := ev f
      rw [hf] at hfv
      generalize hv : a.eval f = v at hfv
      cases hfv with
      | clo vs l hl hel =>
        obtain ⟨⟨fn, h1, h2, h3⟩, hcall⟩ := h
        have hargs := evs_VRs he args.toList
        have hcs := hcall w A ι (args.toList.map a.eval ++ vs) hr (nlVs (args := args.toList.map (evA e) ++ caps) ⟨by simp [hl], fun i v b hv hb => by
          rw [List.getElem?_append] at hv hb
          simp only [List.length_map] at hv hb
          split at hv
          · rename_i hlt
            rw [if_pos hlt] at hb
            exact hargs.2 i v b hv hb
          · rename_i hlt
            rw [if_neg hlt] at hb
            exact hel _ v b hv hb⟩ 3)
        have hb : fn.body ≠ none := by cases hb : fn.body <;> simp_all
        have h3' : fn.name ≠ "runtime.NumGoroutine" := by simpa using h3
        have hrun : (execOp a.eval ⟨dst, .call ⟨.value f, args, argTypes⟩, type, pos, after, guard⟩).run P w = .ok (.enter g (args.toList.map a.eval ++ vs).toArray) w := by
          have e1 : (args.toList.map a.eval ++ vs).toArray = args.map a.eval ++ vs.toArray := by
            apply Array.ext'; simp
          rw [e1]
          simp [execOp, resolve, Deferred.ofValue, hv, invoke, callFunc, h1, h3', hb]
        unfold Oper.wp
        rw [hrun]
        simp only [Oper.upon_enter]
        refine hcs.mono fun en w' ⟨v, hen, A', ι', σ', av, g1, g2, g3, g4⟩ => ?_
        subst hen
        exact hn v w' ⟨A', ι', σ', e, av, g1, g2, fun i => (he i).ext hr g2, g3, g4⟩
  all_goals exact h.elim

theorem put_size (a : Act) (d : Option Tmp) (v : Value) : (a.put d v).tmps.size = a.tmps.size := by
  cases d <;> simp [Act.put]

theorem put_defers (a : Act) (d : Option Tmp) (v : Value) : (a.put d v).defers = a.defers := by
  cases d <;> rfl

/-- A value is put into its slot. -/
theorem Rel.put (h : Rel a w A ι e σ) {d : Option Tmp} (hd : ∀ i, d = some i → i < a.tmps.size) {v : Value} {av : AV} (hv : VR w A ι σ.n v av) : Rel (a.put d v) w A ι (putE e d av) σ := by
  refine ⟨by rw [put_defers]; exact h.1, h.2.1, fun i => ?_⟩
  cases d with
  | none => exact h.2.2 i
  | some d =>
    have hlt := hd d rfl
    simp only [Act.put, putE, upd]
    by_cases hi : i = d
    · subst hi
      rw [if_pos rfl]
      have : (a.tmps.setIfInBounds i v).getD i undef = v := by simp [Array.getD, hlt]
      rw [this]; exact hv
    · rw [if_neg hi]
      have : (a.tmps.setIfInBounds d v).getD i undef = a.tmps.getD i undef := by
        simp only [Array.getD_eq_getD_getElem?, Array.getElem?_setIfInBounds_ne (Ne.symm hi)]
      rw [this]; exact h.2.2 i

theorem Got.rel (h : Rel a w A ι e σ) {v : Value} {w' : World} (hg : Got (fun i => a.tmps.getD i undef) w A ι σ K v w') {d : Option Tmp} (hd : ∀ i, d = some i → i < a.tmps.size) :
    ∃ A' ι' σ' e' av, Rel (a.put d v) w' A' ι' (putE e' d av) σ' ∧ Ext w A ι σ w' A' ι' σ' ∧ K av e' σ' := by
  obtain ⟨A', ι', σ', e', av, h1, h2, h3, h4, h5⟩ := hg
  exact ⟨A', ι', σ', e', av, Rel.put ⟨h.1, h1, h3⟩ hd h4, h2, h5⟩

/-- What a rule's post says of a concrete state. -/
def Post (N : Nat) (w : World) (A : Nat → Prop) (ι : Owns) (σ : St) (Q : Env → St → Prop) (a' : Act) (w' : World) : Prop :=
  ∃ e' σ' A' ι', a'.tmps.size = N ∧ Rel a' w' A' ι' e' σ' ∧ Ext w A ι σ w' A' ι' σ' ∧ Q e' σ'

theorem Post.trans {N w A ι σ w1 A1 ι1 σ1 Q a' w'} (h : Ext w A ι σ w1 A1 ι1 σ1) (hp : Post N w1 A1 ι1 σ1 Q a' w') : Post N w A ι σ Q a' w' := by
  obtain ⟨e', σ', A', ι', h1, h2, h3, h4⟩ := hp
  exact ⟨e', σ', A', ι', h1, h2, h.trans h3, h4⟩

theorem dstB_spec {N : Nat} {ops : Array Oper} (h : dstB N ops = true) {o : Oper} (ho : o ∈ ops.toList) : ∀ i, o.dst = some i → i < N := by
  intro i hi
  have := (List.all_eq_true.1 h) o ho
  rw [hi] at this
  simpa using this

theorem opsA_sound {N : Nat} {ops : Array Oper} (hd : dstB N ops = true) {Qw : Exit → Act → World → Prop} {Q : Env → St → Prop} {w0 : World} {A0 : Nat → Prop} {ι0 : Owns} {σ0 : St} (hQ : ∀ a w, Post N w0 A0 ι0 σ0 Q a w → Qw .normal a w) :
    ∀ (l : List Oper) (a : Act) (w : World) (A : Nat → Prop) (ι : Owns) (e : Env) (σ : St), (∀ o ∈ l, o ∈ ops.toList) → a.tmps.size = N → Rel a w A ι e σ → Ext w0 A0 ι0 σ0 w A ι σ → opsA P ops l Q e σ → wpList P ops Qw l a w
  | [], a, w, A, ι, e, σ, _, hN, hr, hx, h => by
    simp only [opsA] at h
    exact hQ a w ⟨e, σ, A, ι, hN, hr, hx, h⟩
  | o :: l, a, w, A, ι, e, σ, hl, hN, hr, hx, h => by
    have hdo : ∀ i, o.dst = some i → i < a.tmps.size := fun i hi => by rw [hN]; exact dstB_spec hd (hl o (by simp)) i hi
    have go : opA P o.op e σ (fun av e' σ' => opsA P ops l Q (putE e' o.dst av) σ') → o.wp P a w (wpList P ops Qw l) Qw := fun h =>
      opA_sound hr.2.1 hr.2.2 h fun v w' hg => by
        obtain ⟨A', ι', σ', e', av, h1, h2, h3⟩ := hg.rel hr hdo
        exact opsA_sound hd hQ l _ _ _ _ _ _ (fun o ho => hl o (by simp [ho])) (by rw [put_size]; exact hN) h1 (hx.trans h2) h3
    have skip : opsA P ops l Q (putE e o.dst (.lit undef)) σ → wpList P ops Qw l (a.put o.dst undef) w := fun h =>
      opsA_sound hd hQ l _ _ _ _ _ _ (fun o ho => hl o (by simp [ho])) (by rw [put_size]; exact hN) (hr.put hdo .lit) hx h
    simp only [opsA] at h
    unfold wpList
    cases hg : o.guard with
    | none =>
      rw [hg] at h
      have : Region.wanted o (yielded ops a.tmps) = true := by simp [Region.wanted, hg]
      rw [if_pos this]
      exact .inl (go h)
    | some gw =>
      obtain ⟨g, want⟩ := gw
      rw [hg] at h
      simp only at h
      unfold gsl at h
      cases hs : (ops[g]?).bind (·.dst) with
      | none => simp [hs] at h
      | some d =>
        simp only [hs] at h
        have hvd := hr.2.2 d
        have hwanted : Region.wanted o (yielded ops a.tmps) = ((match a.tmps[d]? with | some (.bool b) => some b | _ => none) == some want) := by
          simp only [Region.wanted, hg, yielded, hs, Option.bind_some]
          rfl
        split at h
        · rename_i b hed
          rw [hed] at hvd
          generalize hv : a.tmps.getD d undef = v at hvd
          cases hvd
          have hget : a.tmps[d]? = some (.bool b) := by
            rw [Array.getD_eq_getD_getElem?] at hv
            cases hq : a.tmps[d]? with
            | none => rw [hq] at hv; simp [undef] at hv
            | some u => rw [hq] at hv; simp at hv; rw [hv]
          rw [hwanted, hget]
          by_cases hb : b = want
          · subst hb
            rw [if_pos (by simp)]
            exact .inl (go (h.1 rfl))
          · rw [if_neg (by simpa using hb)]
            exact skip (h.2 (by cases b <;> cases want <;> simp_all))
        · rename_i xs hed
          rw [hed] at hvd
          generalize hv : a.tmps.getD d undef = v at hvd
          cases hvd
          have hnone : (match a.tmps[d]? with | some (.bool b) => some b | _ => none) = none := by
            rw [Array.getD_eq_getD_getElem?] at hv
            cases hq : a.tmps[d]? with
            | none => rfl
            | some u => rw [hq] at hv; simp at hv; rw [hv]
          rw [hwanted, hnone]
          rw [if_neg (by simp)]
          exact skip h
        · exact h.elim

def Sat (P : Program) (N : Nat) (c : Code) (Q : Exit → Env → St → Prop) (e : Env) (σ : St) : Prop :=
  ∀ (a : Act) (w : World) (A : Nat → Prop) (ι : Owns), a.tmps.size = N → Rel a w A ι e σ → c.wp P (fun x a' w' => Post N w A ι σ (Q x) a' w') a w

/-- What stands behind a piece of code. -/
def thenQ (K : Env → St → Prop) (Q : Exit → Env → St → Prop) : Exit → Env → St → Prop
  | .normal => K
  | x => Q x

def blockQ (id : Nat) (Q : Exit → Env → St → Prop) : Exit → Env → St → Prop
  | .exit j => if j = id then Q .normal else Q (.exit j)
  | x => Q x

def condA (P : Program) (N : Nat) (v : AV) (x y : Code) (Q : Exit → Env → St → Prop) (e : Env) (σ : St) : Prop :=
  match v with
  | .lit (.bool t) => (t = true → Sat P N x Q e σ) ∧ (t = false → Sat P N y Q e σ)
  | _ => False

variable {N : Nat} {Q : Exit → Env → St → Prop} {x y c : Code}

theorem Post.self {Q : Env → St → Prop} (hN : a.tmps.size = N) (hr : Rel a w A ι e σ) (h : Q e σ) : Post N w A ι σ Q a w := ⟨e, σ, A, ι, hN, hr, Ext.refl _ _ _ _, h⟩

theorem Sat.skip (h : Q .normal e σ) : Sat P N .skip Q e σ := fun _ _ _ _ hN hr => wp_skip (Post.self hN hr h)
theorem Sat.exit {id : Nat} (h : Q (.exit id) e σ) : Sat P N (.exit id) Q e σ := fun _ _ _ _ hN hr => wp_exit (Post.self hN hr h)
theorem Sat.ret (h : Q .ret e σ) : Sat P N .ret Q e σ := fun _ _ _ _ hN hr => wp_ret (Post.self hN hr h)

theorem Sat.seq (h : Sat P N x (thenQ (Sat P N y Q) Q) e σ) : Sat P N (.seq x y) Q e σ := fun a w A ι hN hr =>
  wp_seq (wp_mono (h a w A ι hN hr) fun x a' w' hp => by
    cases x with
    | normal =>
      obtain ⟨e', σ', A', ι', h1, h2, h3, h4⟩ := hp
      exact wp_mono (h4 a' w' A' ι' h1 h2) fun x a2 w2 hp2 => hp2.trans h3
    | _ => exact hp)

theorem Sat.cond {v : Operand} (h : condA P N (evA e v) x y Q e σ) : Sat P N (.cond v x y) Q e σ := fun a w A ι hN hr => by
  unfold condA at h
  split at h
  case h_2 => exact h.elim
  rename_i t hv
  have hev := ev_VR hr.2.2 v
  rw [hv] at hev
  generalize hq : a.eval v = u at hev
  cases hev
  cases t with
  | true => exact wp_cond hq (h.1 rfl a w A ι hN hr)
  | false => exact wp_cond hq (h.2 rfl a w A ι hN hr)

theorem Sat.block {id : Nat} (h : Sat P N c (blockQ id Q) e σ) : Sat P N (.block id c) Q e σ := fun a w A ι hN hr =>
  wp_block (wp_mono (h a w A ι hN hr) fun x a' w' hp => by
    cases x with
    | exit j =>
      simp only [Exit.inBlock]
      by_cases hj : j = id
      · rw [if_pos hj]; simpa [blockQ, hj] using hp
      · rw [if_neg hj]; simpa [blockQ, hj] using hp
    | _ => exact hp)

theorem Sat.region {id : Nat} {ops : Array Oper} (hd : dstB N ops = true) (h : opsA P ops ops.toList (Q .normal) e σ) : Sat P N (.region id ops false) Q e σ := fun a w A ι hN hr =>
  wp_region_list (opsA_sound hd (fun _ _ h => h) ops.toList a w A ι e σ (fun _ h => h) hN hr (Ext.refl _ _ _ _) h)

theorem Sat.mono {Q' : Exit → Env → St → Prop} (h : Sat P N c Q e σ) (hq : ∀ x e σ, Q x e σ → Q' x e σ) : Sat P N c Q' e σ := fun a w A ι hN hr =>
  wp_mono (h a w A ι hN hr) fun x _ _ ⟨e', σ', A', ι', h1, h2, h3, h4⟩ => ⟨e', σ', A', ι', h1, h2, h3, hq x e' σ' h4⟩

/-- What must hold behind a round: the loop's relation, at something smaller; or what the way out asks. -/
def loopQ {T : Type} (I : T → Env → St → Prop) (μ : T → Nat) (t : T) (Q : Exit → Env → St → Prop) : Exit → Env → St → Prop
  | .normal => fun e σ => ∃ t', μ t' < μ t ∧ I t' e σ
  | x => Q x

theorem Sat.loop {T : Type} (I : T → Env → St → Prop) (μ : T → Nat) (t : T) (h0 : I t e σ) (round : ∀ t e σ, I t e σ → Sat P N c (loopQ I μ t Q) e σ) : Sat P N (.loop c) Q e σ := fun a w A ι hN hr => by
  intro b k cs
  have key : ∀ n t e1 σ1 a1 w1 A1 ι1, μ t = n → I t e1 σ1 → a1.tmps.size = N → Rel a1 w1 A1 ι1 e1 σ1 → Ext w A ι σ w1 A1 ι1 σ1 →
      ∃ x a' w', Post N w A ι σ (Q x) a' w' ∧ Arrives P (lone (b.at a1 (.code c :: .inLoop c :: k)) cs w1) b k cs x a' w' := by
    intro n
    induction n using Nat.strongRecOn with
    | _ n ih =>
      intro t e1 σ1 a1 w1 A1 ι1 hn hI hN1 hr1 hx1
      obtain ⟨x, a2, w2, hq, harr⟩ := round t e1 σ1 hI a1 w1 A1 ι1 hN1 hr1 b (.inLoop c :: k) cs
      cases x with
      | normal =>
        obtain ⟨e2, σ2, A2, ι2, h1, h2, h3, t', h4, h5⟩ := hq
        obtain ⟨x3, a3, w3, hq3, harr3⟩ := ih (μ t') (hn ▸ h4) t' e2 σ2 a2 w2 A2 ι2 rfl h5 h1 h2 (hx1.trans h3)
        exact ⟨x3, a3, w3, hq3, .of_steps (Steps.trans harr (.one step_inLoop)) harr3⟩
      | exit id => exact ⟨_, a2, w2, hq.trans hx1, .pass (x := .inLoop c) rfl (fun _ _ => .inl (by simp)) harr⟩
      | goto l => exact ⟨_, a2, w2, hq.trans hx1, .pass (x := .inLoop c) rfl (fun _ _ => .inl (by simp)) harr⟩
      | ret => exact ⟨_, a2, w2, hq.trans hx1, .pass (x := .inLoop c) rfl (fun _ _ => .inl (by simp)) harr⟩
      | panic ch => exact ⟨_, a2, w2, hq.trans hx1, .pass (x := .inLoop c) rfl (fun _ _ => .inl (by simp)) harr⟩
      | outgrown => exact ⟨_, a2, w2, hq.trans hx1, .pass (x := .inLoop c) rfl (fun _ _ => .inl (by simp)) harr⟩
  obtain ⟨x, a', w', hq, harr⟩ := key _ t e σ a w A ι rfl h0 hN hr (Ext.refl _ _ _ _)
  exact ⟨x, a', w', hq, .of_steps (.one step_loop) harr⟩

/-- The results of a function, out of its slots. -/
def resA (P : Program) : List ResultVar → Env → St → (List AV → Prop) → Prop
  | [], _, _, K => K []
  | .tmp t :: rest, e, σ, K => resA P rest e σ fun l => K (e t :: l)
  | .cell p t :: rest, e, σ, K => loadA P t (e p) e σ fun av _ _ => resA P rest e σ fun l => K (av :: l)

def oneA (K : AV → Prop) : List AV → Prop
  | [x] => K x
  | l => K (.tup l)

/-- What a function's post asks when it returns. -/
def retQ (P : Program) (rs : List ResultVar) (K : AV → St → Prop) : Exit → Env → St → Prop
  | .normal => fun e σ => resA P rs e σ (oneA fun v => K v σ)
  | .ret => fun e σ => resA P rs e σ (oneA fun v => K v σ)
  | _ => fun _ _ => False

end
end Go.Proofs.Qqz
namespace Go.Proofs.Qqz
open Go

section
variable {P : Program} {w : World} {A : Nat → Prop} {ι : Owns} {σ : St} {e : Env} {K : KT} {a : Act} {N : Nat} {Q : Exit → Env → St → Prop} {c : Code}

/-- One result variable, run. -/
def resRun (a : Act) (r : ResultVar) : Sem Value := match r with
  | .tmp t => pure (a.tmps.getD t undef)
  | .cell p t => do loadVar t (← asAddr (a.tmps.getD p undef))

theorem resA_sound (hr : Rel a w A ι e σ) : ∀ (rs : List ResultVar) (K : List AV → Prop), resA P rs e σ K → ∃ vs avs, (rs.mapM (resRun a)).run P w = .ok vs w ∧ VRs w A ι σ.n vs avs ∧ K avs
  | [], K, h => ⟨[], [], rfl, ⟨rfl, by simp⟩, h⟩
  | .tmp t :: rest, K, h => by
    obtain ⟨vs, avs, h1, h2, h3⟩ := resA_sound hr rest (fun l => K (e t :: l)) h
    refine ⟨a.tmps.getD t undef :: vs, e t :: avs, ?_, ⟨by simp [h2.1], fun i v b hv hb => ?_⟩, h3⟩
    · simp only [List.mapM_cons, resRun, Sem.run_bind, Sem.run_pure, Result.andThen_ok, h1]
    · cases i with
      | zero => simp only [List.getElem?_cons_zero, Option.some.injEq] at hv hb; subst hv; subst hb; exact hr.2.2 t
      | succ i => simp only [List.getElem?_cons_succ] at hv hb; exact h2.2 i v b hv hb
  | .cell p t :: rest, K, h => by
    simp only [resA] at h
    have hp := hr.2.2 p
    obtain ⟨v, av, h1, h2, h3⟩ := loadA_read (P := P) hr.2.1 hp h
    obtain ⟨vs, avs, g1, g2, g3⟩ := resA_sound hr rest (fun l => K (av :: l)) h3
    refine ⟨v :: vs, av :: avs, ?_, ⟨by simp [g2.1], fun i u b hu hb => ?_⟩, g3⟩
    · have hptr : (do loadVar t (← asAddr (a.tmps.getD p undef)) : Sem Value).run P w = .ok v w := by
        generalize a.tmps.getD p undef = u at h1
        cases u <;> simp [Instr.loadAt, Instr.sureAddr] at h1
        rename_i q
        cases q with
        | none => simp [Instr.sureAddr] at h1
        | some q => simpa [asAddr] using h1
      simp only [List.mapM_cons, resRun]
      rw [Sem.run_bind, hptr]
      simp only [Result.andThen_ok, Sem.run_bind, g1, Sem.run_pure]
    · cases i with
      | zero => simp only [List.getElem?_cons_zero, Option.some.injEq] at hu hb; subst hu; subst hb; exact h2
      | succ i => simp only [List.getElem?_cons_succ] at hu hb; exact g2.2 i u b hu hb

theorem results_sound {fn : Func} {Kv : AV → Prop} (hr : Rel a w A ι e σ) (h : resA P fn.results.toList e σ (oneA Kv)) : ∃ v av, (results fn a.tmps).run P w = .ok v w ∧ VR w A ι σ.n v av ∧ Kv av := by
  obtain ⟨vs, avs, h1, h2, h3⟩ := resA_sound hr _ _ h
  have hm : (fn.results.mapM (resRun a)).run P w = .ok vs.toArray w := by
    rw [Array.mapM_eq_mapM_toList, Sem.run_map, h1]; rfl
  have hres : (results fn a.tmps).run P w = .ok (if h : vs.toArray.size = 1 then vs.toArray[0] else .tuple vs.toArray) w := by
    show ((fn.results.mapM (resRun a)) >>= fun vs => pure (if h : vs.size = 1 then vs[0] else .tuple vs)).run P w = _
    rw [Sem.run_bind, hm]
    rfl
  match vs, avs, h2, h3, hres with
  | [v], [av], h2, h3, hres => exact ⟨v, av, hres, h2.2 0 v av rfl rfl, h3⟩
  | [], [], h2, h3, hres => exact ⟨_, .tup [], hres, .tup [] [] rfl (by simp), h3⟩
  | v :: u :: vs, b :: c :: avs, h2, h3, hres =>
    exact ⟨.tuple (v :: u :: vs).toArray, .tup (b :: c :: avs), by rw [hres]; rfl, .tup _ _ h2.1 h2.2, h3⟩
  | [v], b :: c :: avs, h2, _, _ => exact absurd h2.1 (by simp)
  | [], b :: avs, h2, _, _ => exact absurd h2.1 (by simp)
  | v :: vs, [], h2, _, _ => exact absurd h2.1 (by simp)
  | v :: u :: vs, [b], h2, _, _ => exact absurd h2.1 (by simp)

/-- A function's contract, from the walk of its body. -/
theorem ACall.intro {f : FuncId} {fn : Func} {args : List AV} (hf : P.funcs[f]? = some fn) (hb : fn.body = some c) (hn : (fn.name == "runtime.NumGoroutine") = false) (hargs : args.length ≤ fn.ntmps)
    (h : Sat P fn.ntmps c (retQ P fn.results.toList fun v σ' => K v e σ') (initE args) σ) : ACall P f args e σ K := by
  refine ⟨⟨fn, hf, by rw [hb]; rfl, hn⟩, fun w A ι vs hr hvs => ?_⟩
  have hl : vs.toArray.size = args.length := by simpa using hvs.1
  let a : Act := { tmps := vs.toArray ++ Array.replicate (fn.ntmps - vs.toArray.size) undef, defers := [] }
  have hN : a.tmps.size = fn.ntmps := by
    have := hvs.1
    simp [a]; omega
  have hrel : Rel a w A ι (initE args) σ := by
    refine ⟨rfl, hr, fun i => ?_⟩
    simp only [initE]
    by_cases hi : i < args.length
    · have h1 : args[i]? = some args[i] := List.getElem?_eq_getElem hi
      have h2 : vs[i]? = some (vs[i]'(by have := hvs.1; omega)) := List.getElem?_eq_getElem (by have := hvs.1; omega)
      have h3 : a.tmps.getD i undef = vs[i]'(by have := hvs.1; omega) := by
        rw [Array.getD_eq_getD_getElem?]
        simp only [a]
        rw [Array.getElem?_append_left (by omega)]
        simp [h2]
      rw [h3, List.getD, h1]
      exact hvs.2 i _ _ h2 h1
    · rw [List.getD, List.getElem?_eq_none (by omega)]
      exact .any
  refine calls_of_wp hf hb (wp_mono (h a w A ι hN hrel) fun x a' w' hp => ?_)
  have fin : ∀ e' σ' A' ι', Rel a' w' A' ι' e' σ' → Ext w A ι σ w' A' ι' σ' → resA P fn.results.toList e' σ' (oneA fun v => K v e σ') →
      a'.defers = [] ∧ ∃ v, (results fn a'.tmps).run P w' = .ok v w' ∧ ∃ v', Ending.returned v = Ending.returned v' ∧ ∃ A' ι' σ' av, Real w' A' ι' σ' ∧ Ext w A ι σ w' A' ι' σ' ∧ VR w' A' ι' σ'.n v' av ∧ K av e σ' := by
    intro e' σ' A' ι' hr' hx hres
    obtain ⟨v, av, h1, h2, h3⟩ := results_sound hr' hres
    exact ⟨hr'.1, v, h1, v, rfl, A', ι', σ', av, hr'.2.1, hx, h2, h3⟩
  obtain ⟨e', σ', A', ι', h1, h2, h3, h4⟩ := hp
  cases x with
  | normal => exact fin e' σ' A' ι' h2 h3 h4
  | ret => exact fin e' σ' A' ι' h2 h3 h4
  | _ => exact h4.elim

theorem ACall.mono {f : FuncId} {args : List AV} {K' : KT} (h : ACall P f args e σ K) (hk : ∀ v e' σ', K v e' σ' → K' v e' σ') : ACall P f args e σ K' :=
  ⟨h.1, fun w A ι vs hr hvs => (h.2 w A ι vs hr hvs).mono fun _ _ ⟨v, h1, A', ι', σ', av, g1, g2, g4, g5⟩ => ⟨v, h1, A', ι', σ', av, g1, g2, g4, hk _ _ _ g5⟩⟩

/-- An argument is read in another way. -/
theorem ACall.args {f : FuncId} {args args' : List AV} (h : ACall P f args' e σ K) (hl : args'.length = args.length)
    (hv : ∀ (w : World) (A : Nat → Prop) (ι : Owns), Real w A ι σ → ∀ (i : Nat) (v : Value) (x y : AV), args[i]? = some x → args'[i]? = some y → VR w A ι σ.n v x → VR w A ι σ.n v y) : ACall P f args e σ K :=
  ⟨h.1, fun w A ι vs hr hvs => h.2 w A ι vs hr ⟨by rw [hvs.1, hl], fun i v y h1 h2 => by
    have hi : i < args.length := by rw [← hl]; exact (List.getElem?_eq_some_iff.1 h2).1
    exact hv w A ι hr i v _ y (List.getElem?_eq_getElem hi) h2 (hvs.2 i v _ h1 (List.getElem?_eq_getElem hi))⟩⟩

/-- The empty slice literal reads as no rows. -/
theorem VR.nil_ps {n : Nat} {v : Value} (h : VR w A ι n v (.lit (.slice none 0 0))) : VR w A ι n v (.ps []) := by
  cases h; exact .psz

/-! ### What the call made is handed back as data -/

/-- References to the call's own blocks (from number m on), turned into data; within data no reference stays. -/
def frz (m : Nat) (σ : St) : Nat → Bool → AV → AV
  | 0, _, _ => .any
  | f + 1, top, x =>
    match x with
    | .os id off len => if id < m then (if top = true then .os id off len else .any) else
      match σ.h id with
      | .flat _ rows => if off + len ≤ rows.length then .ps ((rows.drop off).take len) else .any
      | .deep _ rows => if off + len ≤ rows.length then .ps (((rows.drop off).take len).map fun row => row.map (frz m σ f false)) else .any
      | .dead => .any
    | .ptr id r c => if id < m then (if top = true then .ptr id r c else .any) else
      match σ.h id with
      | .flat _ rows => if r < rows.length then .pa (rows.getD r []) c else .any
      | .deep _ rows => if r < rows.length then .pa ((rows.getD r []).map (frz m σ f false)) c else .any
      | .dead => .any
    | .agg l => .agg (l.map (frz m σ f top))
    | .tup l => .tup (l.map (frz m σ f top))
    | .clo g l => .clo g (l.map (frz m σ f top))
    | x => x

/-- What stands below m is as it was. -/
def Old (σ σ' : St) : Prop := σ.n ≤ σ'.n ∧ ∀ k, k < σ.n → σ'.h k = σ.h k

theorem Old.refl (σ : St) : Old σ σ := ⟨Nat.le_refl _, fun _ _ => rfl⟩
theorem Old.new {σ σ' : St} (h : Old σ σ') (B : Blk) : Old σ (σ'.new B) := ⟨by have := h.1; simp [St.new]; omega, fun k hk => by have := h.1; simp only [St.new]; rw [if_neg (by omega)]; exact h.2 k hk⟩
theorem Old.put {σ σ' : St} (h : Old σ σ') {id : Nat} (hid : σ.n ≤ id) (B : Blk) : Old σ (σ'.put id B) := ⟨h.1, fun k hk => by simp only [St.put]; rw [if_neg (by omega)]; exact h.2 k hk⟩
theorem Old.trans {σ σ' σ'' : St} (h : Old σ σ') (k : Old σ' σ'') : Old σ σ'' := ⟨Nat.le_trans h.1 k.1, fun i hi => (k.2 i (Nat.lt_of_lt_of_le hi h.1)).trans (h.2 i hi)⟩

/-- The blocks of data, once the call's own ones from m on count among them. -/
def Aup (A : Nat → Prop) (ι : Owns) (σ : St) (m : Nat) : Nat → Prop := fun b => A b ∨ ∃ id, m ≤ id ∧ id < σ.n ∧ (σ.h id).live = true ∧ (ι id).virt = false ∧ (ι id).blk = b

theorem VR.refs {w A ι n v x} (h : VR w A ι n v x) {m : Nat} (hf : Flat x) : VR w A ι m v x := (h.flat hf).up (Nat.zero_le _)

theorem RowsOk.frzRow {m wd : Nat} {rows : List (List AV)} {o : Own} {n : Nat} (hb : RowsOk w A ι n o wd rows) (hv : o.virt = false) {A' : Nat → Prop} (hA' : A' o.blk) {g : AV → AV} (hg : ∀ v x, VR w A ι n v x → VR w A' ι 0 v (g x)) {off len cap : Nat} (hle : off + len ≤ rows.length) (hcap : len ≤ cap) :
    VR w A' ι m (.slice (some ⟨o.blk, off * o.wd, none⟩) len cap) (.ps (((rows.drop off).take len).map fun row => row.map g)) := by
  have hget : ∀ (k : Nat) (row : List AV), ((rows.drop off).take len)[k]? = some row → rows[off + k]? = some row := fun k row hk => by
    rw [List.getElem?_take] at hk
    split at hk
    · simpa using hk
    · cases hk
  have hl : (((rows.drop off).take len).map fun row => row.map g).length = len := by simp; omega
  -- the cells' values
  have hex : ∀ i j, ∃ v, ∀ row a, rows[off + i]? = some row → row[j]? = some a → w.cell? ⟨o.blk, off * o.wd + (i * wd + j), none⟩ = some v ∧ VR w A ι n v a := by
    intro i j
    by_cases h : ∃ row a, rows[off + i]? = some row ∧ row[j]? = some a
    · obtain ⟨row, a, h1, h2⟩ := h
      obtain ⟨v, h3, h4⟩ := hb.rowAt hv h1 j a h2
      refine ⟨v, fun row' a' g1 g2 => ?_⟩
      rw [h1] at g1; cases g1
      rw [h2] at g2; cases g2
      refine ⟨?_, h4⟩
      rw [hb.1, Nat.add_mul, Nat.add_assoc] at h3
      rw [hb.1]
      exact h3
    · exact ⟨undef, fun row a h1 h2 => absurd ⟨row, a, h1, h2⟩ h⟩
  have hcv := fun i j => (hex i j).choose_spec
  have key : ∀ L : List (List AV), L = (((rows.drop off).take len).map fun row => row.map g) → VR w A' ι m (.slice (some ⟨o.blk, off * o.wd, none⟩) L.length cap) (.ps L) := by
    rintro L rfl
    refine .ps wd (fun i j => (hex i j).choose) (by rw [hl]; exact hcap) hA' (fun i row hi => ?_) (fun i row hi j a ha => ?_) (fun i row hi j a ha => ?_)
    · rw [List.getElem?_map] at hi
      cases hr : ((rows.drop off).take len)[i]? with
      | none => simp [hr] at hi
      | some r => simp [hr] at hi; subst hi; simp; exact hb.2.2.1 _ r (hget i r hr)
    · rw [List.getElem?_map] at hi
      cases hr : ((rows.drop off).take len)[i]? with
      | none => simp [hr] at hi
      | some r =>
        simp only [hr, Option.map_some, Option.some.injEq] at hi
        subst hi
        rw [List.getElem?_map] at ha
        cases hx : r[j]? with
        | none => simp [hx] at ha
        | some x => exact (hcv i j r x (hget i r hr) hx).1
    · rw [List.getElem?_map] at hi
      cases hr : ((rows.drop off).take len)[i]? with
      | none => simp [hr] at hi
      | some r =>
        simp only [hr, Option.map_some, Option.some.injEq] at hi
        subst hi
        rw [List.getElem?_map] at ha
        cases hx : r[j]? with
        | none => simp [hx] at ha
        | some x =>
          simp only [hx, Option.map_some, Option.some.injEq] at ha
          subst ha
          exact hg _ _ (hcv i j r x (hget i r hr) hx).2
  have := key _ rfl
  rw [hl] at this
  exact this

theorem map_VR {A' : Nat → Prop} {n n' : Nat} {vs : List Value} {l : List AV} {g : AV → AV} (hel : ∀ (i : Nat) (v : Value) (a : AV), vs[i]? = some v → l[i]? = some a → VR w A ι n v a) (hg : ∀ v x, VR w A ι n v x → VR w A' ι n' v (g x)) :
    ∀ (i : Nat) (v : Value) (a : AV), vs[i]? = some v → (l.map g)[i]? = some a → VR w A' ι n' v a := by
  intro i v a h1 h2
  rw [List.getElem?_map] at h2
  cases hx : l[i]? with
  | none => simp [hx] at h2
  | some x =>
    simp only [hx, Option.map_some, Option.some.injEq] at h2
    subst h2
    exact hg _ _ (hel i v x h1 hx)

theorem frz_VR (hr : Real w A ι σ) {m : Nat} (hm : m ≤ σ.n) : ∀ (f : Nat) (top : Bool) (v : Value) (x : AV), VR w A ι σ.n v x → VR w (Aup A ι σ m) ι (if top = true then m else 0) v (frz m σ f top x)
  | 0, _, _, _, _ => .any
  | f + 1, top, v, x, h => by
    generalize hk : (if top = true then m else 0) = k
    have ih : ∀ v x, VR w A ι σ.n v x → VR w (Aup A ι σ m) ι k v (frz m σ f top x) := fun v x h => hk ▸ frz_VR hr hm f top v x h
    have ih0 : ∀ v x, VR w A ι σ.n v x → VR w (Aup A ι σ m) ι 0 v (frz m σ f false x) := fun v x h => by simpa using frz_VR hr hm f false v x h
    have up : ∀ {v x}, Flat x → VR w A ι σ.n v x → VR w (Aup A ι σ m) ι k v x := fun hf h =>
      ((h.flat hf).mono (Nat.le_refl _) (fun _ h => .inl h) (fun _ _ => rfl) (fun _ _ => rfl)).up (Nat.zero_le _)
    have hA : ∀ id B, id < σ.n → ¬ id < m → (ι id).virt = false → σ.h id = B → B.live = true → Aup A ι σ m (ι id).blk := fun id B h0 h1 hv h2 h3 => .inr ⟨id, by omega, h0, by rw [h2]; exact h3, hv, rfl⟩
    cases h with
    | any => exact .any
    | lit => exact .lit
    | agg vs l hl hel => exact .agg vs _ (by simpa using hl) (map_VR hel ih)
    | tup vs l hl hel => exact .tup vs _ (by simpa using hl) (map_VR hel ih)
    | clo vs l hl hel => exact .clo vs _ (by simpa using hl) (map_VR hel ih)
    | psz => exact .psz
    | ps wd cv h1 h2 h3 h4 h5 => exact up .ps (.ps wd cv h1 h2 h3 h4 h5)
    | pa cv h1 h2 h3 => exact up .pa (.pa cv h1 h2 h3)
    | @os _ id off len cap hn hv hcap hl =>
      simp only [frz]
      by_cases hid : id < m
      · rw [if_pos hid]
        cases top with
        | true => simp only [if_true] at hk ⊢; subst hk; exact .os hid hv hcap hl
        | false => exact .any
      · rw [if_neg hid]
        have hb := hr.ok id hn
        cases hB : σ.h id with
        | dead => exact .any
        | flat wd rows =>
          rw [hB] at hb
          simp only
          split
          · rename_i hle
            have := RowsOk.frzRow (m := k) hb hv (hA id _ hn hid hv hB rfl) (g := fun x => x) (fun v x h => h.mono (Nat.le_refl _) (fun _ h => .inl h) (fun _ _ => rfl) (fun _ _ => rfl)) hle hl
            simpa using this
          · exact .any
        | deep wd rows =>
          rw [hB] at hb
          simp only
          split
          · rename_i hle
            exact RowsOk.frzRow (m := k) hb hv (hA id _ hn hid hv hB rfl) (g := frz m σ f false) ih0 hle hl
          · exact .any
    | @osz _ id off a hn =>
      simp only [frz]
      by_cases hid : id < m
      · rw [if_pos hid]
        cases top with
        | true => simp only [if_true] at hk ⊢; subst hk; exact .osz hid
        | false => exact .any
      · rw [if_neg hid]
        cases hB : σ.h id with
        | dead => exact .any
        | flat wd rows =>
          simp only
          split
          · simpa using VR.psz
          · exact .any
        | deep wd rows =>
          simp only
          split
          · simpa using VR.psz
          · exact .any
    | @ptr _ id r c hn hv =>
      simp only [frz]
      by_cases hid : id < m
      · rw [if_pos hid]
        cases top with
        | true => simp only [if_true] at hk ⊢; subst hk; exact .ptr hid hv
        | false => exact .any
      · rw [if_neg hid]
        have hb := hr.ok id hn
        have mk : ∀ (n : Nat) (wd : Nat) (rows : List (List AV)) (g : AV → AV), RowsOk w A ι n (ι id) wd rows → Aup A ι σ m (ι id).blk → (∀ v x, VR w A ι n v x → VR w (Aup A ι σ m) ι 0 v (g x)) → r < rows.length →
            VR w (Aup A ι σ m) ι k (.pointer (some ⟨(ι id).blk, r * (ι id).wd + c, none⟩)) (.pa ((rows.getD r []).map g) c) := by
          intro n wd rows g hb hA' hg hlt
          have hrow : rows[r]? = some (rows.getD r []) := by simp [List.getD, List.getElem?_eq_getElem hlt]
          have hat := hb.rowAt hv hrow
          have hex : ∀ j, ∃ v, ∀ a, (rows.getD r [])[j]? = some a → w.cell? ⟨(ι id).blk, r * (ι id).wd + j, none⟩ = some v ∧ VR w A ι n v a := by
            intro j
            cases hj : (rows.getD r [])[j]? with
            | none => exact ⟨undef, nofun⟩
            | some a =>
              obtain ⟨v, h1, h2⟩ := hat j a hj
              exact ⟨v, fun a' h => by cases h; exact ⟨h1, h2⟩⟩
          refine .pa (fun j => (hex j).choose) hA' (fun j a ha => ?_) (fun j a ha => ?_)
          · rw [List.getElem?_map] at ha
            obtain ⟨x, hx, _⟩ := Option.map_eq_some_iff.1 ha
            exact ((hex j).choose_spec x hx).1
          · rw [List.getElem?_map] at ha
            obtain ⟨x, hx, rfl⟩ := Option.map_eq_some_iff.1 ha
            exact hg _ _ ((hex j).choose_spec x hx).2
        cases hB : σ.h id with
        | dead => exact .any
        | flat wd rows =>
          rw [hB] at hb
          simp only
          split
          · rename_i hlt
            have := mk 0 wd rows (fun x => x) hb (hA id _ hn hid hv hB rfl) (fun v x h => h.mono (Nat.le_refl _) (fun _ h => .inl h) (fun _ _ => rfl) (fun _ _ => rfl)) hlt
            simpa using this
          · exact .any
        | deep wd rows =>
          rw [hB] at hb
          simp only
          split
          · rename_i hlt
            exact mk σ.n wd rows (frz m σ f false) hb (hA id _ hn hid hv hB rfl) ih0 hlt
          · exact .any

/-- What refers to the first blocks alone still does. -/
theorem VR.shrink {w w' : World} {A A' : Nat → Prop} {ι ι' : Owns} {n n' : Nat} {v v' : Value} {a : AV} (h : VR w A ι n v a) (h' : VR w' A' ι' n' v' a) : VR w' A' ι' n v' a := by
  induction h generalizing n' v' with
  | any => exact .any
  | lit => cases h'; exact .lit
  | agg vs l hl hel ih =>
    cases h' with
    | agg vs' _ hl' hel' => exact .agg vs' l hl' fun i v a h1 h2 => ih i _ a (List.getElem?_eq_getElem (by have := (List.getElem?_eq_some_iff.1 h2).1; omega)) h2 (hel' i v a h1 h2)
  | tup vs l hl hel ih =>
    cases h' with
    | tup vs' _ hl' hel' => exact .tup vs' l hl' fun i v a h1 h2 => ih i _ a (List.getElem?_eq_getElem (by have := (List.getElem?_eq_some_iff.1 h2).1; omega)) h2 (hel' i v a h1 h2)
  | clo vs l hl hel ih =>
    cases h' with
    | clo vs' _ hl' hel' => exact .clo vs' l hl' fun i v a h1 h2 => ih i _ a (List.getElem?_eq_getElem (by have := (List.getElem?_eq_some_iff.1 h2).1; omega)) h2 (hel' i v a h1 h2)
  | psz => exact h'.refs .ps
  | ps => exact h'.refs .ps
  | pa => exact h'.refs .pa
  | os hn => cases h' with
    | os _ hv hcap hl => exact .os hn hv hcap hl
    | osz => exact .osz hn
  | osz hn => cases h' with
    | os _ hv hcap hl => exact .os hn hv hcap hl
    | osz => exact .osz hn
  | ptr hn => cases h' with
    | ptr _ hv => exact .ptr hn hv

/-- The call's own blocks from σ.n on are given up: what they held counts as data. -/
theorem Real.leave {w' : World} {A' : Nat → Prop} {ι' : Owns} {σ' : St} (hr : Real w A ι σ) (hr' : Real w' A' ι' σ') (hx : Ext w A ι σ w' A' ι' σ') (ho : Old σ σ') :
    Real w' (Aup A' ι' σ' σ.n) ι' σ ∧ Ext w A ι σ w' (Aup A' ι' σ' σ.n) ι' σ := by
  have hlv : ∀ b, Live ι' σ b → Live ι' σ' b := by
    rintro b ⟨k, h1, h2, h3, h4⟩
    exact ⟨k, Nat.lt_of_lt_of_le h1 ho.1, by rw [ho.2 k h1]; exact h2, h3, h4⟩
  have hAl : ∀ b, Aup A' ι' σ' σ.n b → A' b ∨ Live ι' σ' b := by
    rintro b (h | ⟨id, h1, h2, h3, h4, h5⟩)
    · exact .inl h
    · exact .inr ⟨id, h2, h3, h4, h5⟩
  refine ⟨⟨fun k hk => ?_, fun i j hi hj h1 h2 h3 h4 h5 => ?_, fun b hb hb' => ?_, fun b hb => ?_, hr.dead⟩, ⟨hx.os, hx.tape, hx.output, hx.size, Nat.le_refl _, hx.io, fun b hb => .inl (hx.inA b hb), hx.keep, fun b hb => hx.live b (hlv b hb), fun b hb => ?_⟩⟩
  · have h1 := hr.ok k hk
    have h2 := hr'.ok k (Nat.lt_of_lt_of_le hk ho.1)
    rw [ho.2 k hk] at h2
    cases hB : σ.h k with
    | dead => trivial
    | flat wd rows =>
      rw [hB] at h2
      exact (show BlkOk w' A' ι' σ'.n (ι' k) (.flat wd rows) from h2).mono (n := σ'.n) (n' := σ'.n) (Nat.le_refl _) (fun _ h => .inl h) (fun _ _ => rfl) (fun _ _ => rfl) (fun _ _ => rfl)
    | deep wd rows =>
      rw [hB] at h1 h2
      have h3 : BlkOk w' (Aup A' ι' σ' σ.n) ι' σ'.n (ι' k) (.deep wd rows) := (show BlkOk w' A' ι' σ'.n (ι' k) (.deep wd rows) from h2).mono (Nat.le_refl _) (fun _ h => .inl h) (fun _ _ => rfl) (fun _ _ => rfl) (fun _ _ => rfl)
      obtain ⟨a1, a2, a3, a4⟩ := h1
      obtain ⟨b1, b2, b3, b4⟩ := h3
      refine ⟨b1, b2, b3, ?_⟩
      have hio := hx.io k hk
      rw [hio] at b4 ⊢
      by_cases hv : (ι k).virt = true
      · rw [if_pos hv] at b4 ⊢; exact b4
      · rw [if_neg hv] at a4 b4 ⊢
        obtain ⟨arr0, el0, c1, c2, c3⟩ := a4
        obtain ⟨arr, el, d1, d2, d3⟩ := b4
        refine ⟨arr, el, d1, d2, fun i row hi j a ha => ?_⟩
        obtain ⟨v0, e1, e2⟩ := c3 i row hi j a ha
        obtain ⟨v, f1, f2⟩ := d3 i row hi j a ha
        exact ⟨v, f1, e2.shrink f2⟩
  · exact hr'.inj i j (Nat.lt_of_lt_of_le hi ho.1) (Nat.lt_of_lt_of_le hj ho.1) (by rw [ho.2 i hi]; exact h1) (by rw [ho.2 j hj]; exact h2) h3 h4 h5
  · rcases hb with hb | ⟨id, g1, g2, g3, g4, g5⟩
    · exact hr'.away b hb (hlv b hb')
    · obtain ⟨k, h1, h2, h3, h4⟩ := hb'
      have := hr'.inj id k g2 (Nat.lt_of_lt_of_le h1 ho.1) g3 (by rw [ho.2 k h1]; exact h2) g4 h3 (g5.trans h4.symm)
      omega
  · exact (hAl b hb).elim (hr'.inA b) hr'.live_lt
  · exact (hAl b hb).elim (hx.newA b) (fun h => .inr (hx.live b h))

/-- A function that hands back data: its contract, from the walk of its body. -/
theorem ACall.pure {f : FuncId} {fn : Func} {args : List AV} {rs : List ResultVar} (hf : P.funcs[f]? = some fn) (hb : fn.body = some c) (hN : fn.ntmps = N) (hrs : fn.results = rs.toArray) (hn : (fn.name == "runtime.NumGoroutine") = false) (hargs : Nat.ble args.length N = true)
    (h : Sat P N c (retQ P rs fun v σ' => Old σ σ' ∧ ∃ k, K (frz σ.n σ' k true v) e σ) (initE args) σ) : ACall P f args e σ K := by
  subst hN
  have hrs' : fn.results.toList = rs := by rw [hrs]
  subst hrs'
  have h0 := ACall.intro (e := fun _ => .any) (K := fun v _ σ' => Old σ σ' ∧ ∃ k, K (frz σ.n σ' k true v) e σ) hf hb hn (by simpa using hargs) h
  refine ⟨h0.1, fun w A ι vs hr hvs => (h0.2 w A ι vs hr hvs).mono ?_⟩
  rintro en w' ⟨v, h1, A', ι', σ', av, g1, g2, g4, ho, k, hK⟩
  obtain ⟨r1, r2⟩ := hr.leave g1 g2 ho
  exact ⟨v, h1, _, ι', σ, _, r1, r2, by simpa using frz_VR g1 ho.1 k true v av g4, hK⟩

/-- The same, looked into to a given depth. -/
theorem ACall.pureK (k : Nat) {f : FuncId} {fn : Func} {args : List AV} {rs : List ResultVar} (hf : P.funcs[f]? = some fn) (hb : fn.body = some c) (hN : fn.ntmps = N) (hrs : fn.results = rs.toArray) (hn : (fn.name == "runtime.NumGoroutine") = false) (hargs : Nat.ble args.length N = true)
    (h : Sat P N c (retQ P rs fun v σ' => Old σ σ' ∧ K (nlV 3 (frz σ.n σ' k true v)) e σ) (initE args) σ) : ACall P f args e σ K := by
  subst hN
  have hrs' : fn.results.toList = rs := by rw [hrs]
  subst hrs'
  have h0 := ACall.intro (e := fun _ => .any) (K := fun v _ σ' => Old σ σ' ∧ K (nlV 3 (frz σ.n σ' k true v)) e σ) hf hb hn (by simpa using hargs) h
  refine ⟨h0.1, fun w A ι vs hr hvs => (h0.2 w A ι vs hr hvs).mono ?_⟩
  rintro en w' ⟨v, h1, A', ι', σ', av, g1, g2, g4, ho, hK⟩
  obtain ⟨r1, r2⟩ := hr.leave g1 g2 ho
  exact ⟨v, h1, _, ι', σ, _, r1, r2, nlV_VR 3 _ _ (by simpa using frz_VR g1 ho.1 k true v av g4), hK⟩

/-- A function that hands back nothing of its memory, and leaves the caller's as it was. -/
theorem ACall.bare {f : FuncId} {fn : Func} {args : List AV} {rs : List ResultVar} (hf : P.funcs[f]? = some fn) (hb : fn.body = some c) (hN : fn.ntmps = N) (hrs : fn.results = rs.toArray) (hn : (fn.name == "runtime.NumGoroutine") = false) (hargs : Nat.ble args.length N = true)
    (h : Sat P N c (retQ P rs fun v σ' => K v e σ') (initE args) σ) : ACall P f args e σ K := by
  subst hN
  have hrs' : fn.results.toList = rs := by rw [hrs]
  subst hrs'
  exact ACall.intro hf hb hn (by simpa using hargs) h

end
end Go.Proofs.Qqz
namespace Go.Proofs.Qqz
open Go

section
variable {P : Program} {σ : St} {e e' : Env}

theorem map_evA {xs : List Operand} (h : ∀ x ∈ xs, evA e x = evA e' x) : xs.map (evA e) = xs.map (evA e') := List.map_congr_left h

theorem omap_evA {x : Option Operand} (h : ∀ y ∈ x.toArray, evA e y = evA e' y) : x.map (evA e) = x.map (evA e') := by
  cases x with
  | none => rfl
  | some x => simp [h x (by simp)]

theorem callA_env {c : Call} {R : AV → St → Prop} (h : ∀ x ∈ c.operands, evA e x = evA e' x) (hh : callA P c e σ (fun v _ σ' => R v σ')) : callA P c e' σ (fun v _ σ' => R v σ') := by
  obtain ⟨callee, args, ts⟩ := c
  have ha : args.toList.map (evA e) = args.toList.map (evA e') := map_evA fun x hx => h x (by simp only [Call.operands, Array.mem_append]; exact .inr (by simpa using hx))
  cases callee with
  | value f =>
    have hf : evA e f = evA e' f := h f (by simp [Call.operands])
    simp only [callA, ha, hf] at hh ⊢
    exact hh
  | builtin b =>
    simp only [callA, ha] at hh ⊢
    exact hh
  | invoke => exact hh.elim

theorem opA_env {op : Op} {R : AV → St → Prop} (h : ∀ x ∈ op.operands, evA e x = evA e' x) (hh : opA P op e σ (fun v _ σ' => R v σ')) : opA P op e' σ (fun v _ σ' => R v σ') := by
  cases op <;> simp only [opA] at hh ⊢ <;> simp only [Op.operands] at h
  case move x => rw [← h x (by simp)]; exact hh
  case assign x => rw [← h x (by simp)]; exact hh
  case pick c a b => rw [← h c (by simp), ← h a (by simp), ← h b (by simp)]; exact hh
  case alloc t => exact hh
  case box t x => rw [← h x (by simp)]; exact hh
  case build t ps =>
    have : partsE e ps.toList = partsE e' ps.toList := List.map_congr_left fun p hp => by rw [h p.2 (by simp; exact ⟨p.1, by simpa using hp⟩)]
    rw [← this]; exact hh
  case buildSlice t n ps =>
    have : partsE e ps.toList = partsE e' ps.toList := List.map_congr_left fun p hp => by rw [h p.2 (by simp; exact ⟨p.1, by simpa using hp⟩)]
    rw [← this]; exact hh
  case load t x => rw [← h x (by simp)]; exact hh
  case store t x y => rw [← h x (by simp), ← h y (by simp)]; exact hh
  case nilCheck x => rw [← h x (by simp)]; exact hh
  case binOp op t x y t2 => rw [← h x (by simp), ← h y (by simp)]; exact hh
  case unOp op t x => rw [← h x (by simp)]; exact hh
  case convert s d x => rw [← h x (by simp)]; exact hh
  case makeFunc fn first caps =>
    rw [← map_evA (e := e) fun x hx => h x (by simp; exact .inl (by simpa using hx)), ← map_evA (e := e) fun x hx => h x (by simp; exact .inr (by simpa using hx))]; exact hh
  case makeSlice t x y => rw [← h x (by simp), ← h y (by simp)]; exact hh
  case slice t x lo hi mx =>
    rw [← h x (by simp), ← omap_evA (e := e) fun y hy => h y (by simp at hy ⊢; simp [hy]), ← omap_evA (e := e) fun y hy => h y (by simp at hy ⊢; simp [hy]), ← omap_evA (e := e) fun y hy => h y (by simp at hy ⊢; simp [hy])]; exact hh
  case fieldAddr t x f => rw [← h x (by simp)]; exact hh
  case field t x f => rw [← h x (by simp)]; exact hh
  case indexAddr t x y => rw [← h x (by simp), ← h y (by simp)]; exact hh
  case index t x y => rw [← h x (by simp), ← h y (by simp)]; exact hh
  case extract x i => rw [← h x (by simp)]; exact hh
  case call c => exact callA_env h hh

theorem intA_mono {op : BinOp} {k : IntKind} {a b : Int} {K K' : KT} (hk : ∀ v, K v e σ → K' v e σ) : intA op k a b e σ K → intA op k a b e σ K' := by
  cases op <;> simp only [intA] <;> first | exact hk _ | exact fun h => ⟨h.1, hk _ h.2⟩ | exact id

theorem eqA_mono {t : TypeId} {x y : AV} {K K' : Bool → Prop} (hk : ∀ v, K v → K' v) : eqA P t x y e σ K → eqA P t x y e σ K' := by
  unfold eqA
  split <;> first | exact hk _ | exact fun h => ⟨h.1, hk _ h.2⟩ | exact fun h => ⟨h.1, fun b hb => hk b (h.2 b hb)⟩ | exact id

theorem binA_mono {op : BinOp} {t : TypeId} {x y : AV} {K K' : KT} (hk : ∀ v, K v e σ → K' v e σ) : binA P op t x y e σ K → binA P op t x y e σ K' := by
  unfold binA
  split
  · exact fun h => ⟨h.1, intA_mono hk h.2⟩
  · split
    · exact eqA_mono fun b => hk _
    · exact eqA_mono fun b => hk _
    · split
      · exact fun h => ⟨h.1, hk _ h.2⟩
      · exact id
    · exact id

/-- Operations whose meaning does not depend on memory. -/
def indepOp : Op → Bool
  | .move _ => true
  | .assign _ => true
  | .pick _ _ _ => true
  | .unOp _ _ _ => true
  | .binOp _ _ _ _ _ => true
  | .convert _ _ _ => true
  | .field _ _ _ => true
  | .nilCheck _ => true
  | .fieldAddr _ _ _ => true
  | .extract _ _ => true
  | _ => false

theorem opA_indep {op : Op} {u : AV} (hi : indepOp op = true) (hh : opA P op e σ (fun v _ σ' => v = u ∧ σ' = σ)) (σ2 : St) : opA P op e σ2 (fun v _ σ' => v = u ∧ σ' = σ2) := by
  cases op <;> simp only [indepOp, Bool.false_eq_true] at hi <;> simp only [opA] at hh ⊢
  case move x => simpa using hh
  case assign x => simpa using hh
  case pick c a b =>
    unfold pickA at hh ⊢
    split <;> simp_all
  case binOp op t x y t2 =>
    have h1 : binA P op t (evA e x) (evA e y) e σ (fun v _ _ => v = u) := binA_mono (fun v h => h.1) hh
    have h2 : binA P op t (evA e x) (evA e y) e σ2 (fun v _ _ => v = u) := h1
    exact binA_mono (fun v h => ⟨h, rfl⟩) h2
  case nilCheck x =>
    unfold nilCheckA at hh ⊢
    split <;> simp_all
  case unOp op t x =>
    unfold unA at hh ⊢
    split <;> simp_all
  case convert s d x =>
    unfold convA at hh ⊢
    refine ⟨hh.1, ?_⟩
    replace hh := hh.2
    split <;> simp_all
  case fieldAddr t x f =>
    unfold fieldAddrA withTI at hh ⊢
    cases ht : tiOf P t with
    | none => rw [ht] at hh; exact hh
    | some i =>
      rw [ht] at hh
      simp only at hh ⊢
      cases hf : i.fields[f]? with
      | none => rw [hf] at hh; exact hh
      | some p =>
        rw [hf] at hh
        simp only at hh ⊢
        refine ⟨hh.1, ?_⟩
        replace hh := hh.2
        cases hx : evA e x <;> rw [hx] at hh
        case pa row c => exact ⟨hh.1, by simp⟩
        case ptr id r c => exact ⟨hh.1, by simp⟩
        all_goals exact hh
  case field t x f =>
    unfold fieldA withTI at hh ⊢
    cases ht : tiOf P t with
    | none => rw [ht] at hh; exact hh
    | some i =>
      rw [ht] at hh
      simp only at hh ⊢
      cases hf : i.fields[f]? with
      | none => rw [hf] at hh; exact hh
      | some p =>
        rw [hf] at hh
        simp only at hh ⊢
        cases hu : tiOf P p.2 with
        | none => rw [hu] at hh; exact hh
        | some j =>
          rw [hu] at hh
          simp only at hh ⊢
          cases hx : evA e x <;> rw [hx] at hh
          case agg l =>
            simp only [loadRow] at hh ⊢
            split
            · rename_i hc; rw [if_pos hc] at hh; exact ⟨hh.1, hh.2.1, by simp⟩
            · rename_i hc; rw [if_neg hc] at hh; exact ⟨hh.1, hh.2.1, by simp⟩
          all_goals exact hh
  case extract x i =>
    unfold extractA at hh ⊢
    cases hx : evA e x <;> rw [hx] at hh
    case tup l => exact ⟨hh.1, hh.2.1, by simp⟩
    all_goals exact hh
end
end Go.Proofs.Qqz
