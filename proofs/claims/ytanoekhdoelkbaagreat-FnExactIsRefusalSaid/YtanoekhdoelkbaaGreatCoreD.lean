/- The abstract meaning of an operation is sound: what it says of the value and of memory holds of the run. -/
import Derived.Test.YtanoekhdoelkbaaGreatCoreC
set_option linter.unusedSimpArgs false
set_option linter.unusedVariables false
namespace Go.Proofs.Qqz
open Go

def VRs (w : World) (A : Nat → Prop) (ι : Owns) (n : Nat) (vs : List Value) (args : List AV) : Prop :=
  vs.length = args.length ∧ ∀ (i : Nat) (v : Value) (a : AV), vs[i]? = some v → args[i]? = some a → VR w A ι n v a

/-- A value has come, and the state that goes with it. -/
def Got (τ : Nat → Value) (w : World) (A : Nat → Prop) (ι : Owns) (σ : St) (K : KT) (v : Value) (w' : World) : Prop :=
  ∃ A' ι' σ' e' av, Real w' A' ι' σ' ∧ Ext w A ι σ w' A' ι' σ' ∧ (∀ i, VR w' A' ι' σ'.n (τ i) (e' i)) ∧ VR w' A' ι' σ'.n v av ∧ K av e' σ'

def FOk (P : Program) (f : FuncId) : Prop := ∃ fn, P.funcs[f]? = some fn ∧ fn.body.isSome = true ∧ (fn.name == "runtime.NumGoroutine") = false

/-- A call of function f with these arguments, in this state, comes back, and K holds of what it gives. -/
def ACall (P : Program) (f : FuncId) (args : List AV) (e : Env) (σ : St) (K : KT) : Prop :=
  FOk P f ∧ ∀ (w : World) (A : Nat → Prop) (ι : Owns) (vs : List Value), Real w A ι σ → VRs w A ι σ.n vs args →
    Calls P f vs.toArray w fun en w' => ∃ v, en = .returned v ∧ ∃ A' ι' σ' av, Real w' A' ι' σ' ∧ Ext w A ι σ w' A' ι' σ' ∧ VR w' A' ι' σ'.n v av ∧ K av e σ'

def Ran (P : Program) (s : Sem Value) (τ : Nat → Value) (w : World) (A : Nat → Prop) (ι : Owns) (σ : St) (K : KT) : Prop :=
  ∃ v w', s.run P w = .ok v w' ∧ Got τ w A ι σ K v w'

section
variable {P : Program} {τ : Nat → Value} {w : World} {A : Nat → Prop} {ι : Owns} {σ : St} {e : Env} {K : KT}

theorem Got.same (hr : Real w A ι σ) (he : ∀ i, VR w A ι σ.n (τ i) (e i)) {v : Value} {av : AV} (hv : VR w A ι σ.n v av) (hK : K av e σ) : Got τ w A ι σ K v w :=
  ⟨A, ι, σ, e, av, hr, Ext.refl _ _ _ _, he, hv, hK⟩

theorem Got.mk' (hr : Real w A ι σ) (he : ∀ i, VR w A ι σ.n (τ i) (e i)) {w' A' ι' σ'} (h : Real w' A' ι' σ' ∧ Ext w A ι σ w' A' ι' σ') {v : Value} {av : AV} (hv : VR w' A' ι' σ'.n v av) (hK : K av e σ') : Got τ w A ι σ K v w' :=
  ⟨A', ι', σ', e, av, h.1, h.2, fun i => (he i).ext hr h.2, hv, hK⟩

theorem loadA_read (hr : Real w A ι σ) {t : TypeId} {x : AV} {vx : Value} (hx : VR w A ι σ.n vx x) (h : loadA P t x e σ K) : ∃ v av, (Instr.loadAt t vx).run P w = .ok v w ∧ VR w A ι σ.n v av ∧ K av e σ := by
  obtain ⟨i, hi, h⟩ := withTI_spec h
  cases x with
  | pa row c =>
    obtain ⟨b, off, rfl, hrow⟩ := hx.rowAt
    obtain ⟨v, av, h1, h2, h3⟩ := loadRow_sound hi (hrow.up (Nat.zero_le σ.n)) h
    exact ⟨v, av, by simp [Instr.loadAt, Instr.sureAddr, h1], h2, h3⟩
  | ptr id r c =>
    cases hx with
    | ptr hn hv =>
      have hb := hr.ok id hn
      cases hB : σ.h id with
      | dead => simp [hB] at h
      | flat wd rows =>
        simp only [hB] at h
        rw [hB] at hb
        obtain ⟨hlt, h⟩ := h
        have hrow : rows[r]? = some (rows.getD r []) := by simp [List.getD, List.getElem?_eq_getElem hlt]
        obtain ⟨v, av, h1, h2, h3⟩ := loadRow_sound hi ((RowsOk.rowAt hb hv hrow).up (Nat.zero_le σ.n)) h
        exact ⟨v, av, by simp [Instr.loadAt, Instr.sureAddr, h1], h2, h3⟩
      | deep wd rows =>
        simp only [hB] at h
        rw [hB] at hb
        obtain ⟨hlt, h⟩ := h
        have hrow : rows[r]? = some (rows.getD r []) := by simp [List.getD, List.getElem?_eq_getElem hlt]
        obtain ⟨v, av, h1, h2, h3⟩ := loadRow_sound hi (RowsOk.rowAt hb hv hrow) h
        exact ⟨v, av, by simp [Instr.loadAt, Instr.sureAddr, h1], h2, h3⟩
  | _ => exact h.elim

theorem loadA_sound (hr : Real w A ι σ) (he : ∀ i, VR w A ι σ.n (τ i) (e i)) {t : TypeId} {x : AV} {vx : Value} (hx : VR w A ι σ.n vx x) (h : loadA P t x e σ K) : Ran P (Instr.loadAt t vx) τ w A ι σ K := by
  obtain ⟨v, av, h1, h2, h3⟩ := loadA_read hr hx h
  exact ⟨v, w, h1, Got.same hr he h2 h3⟩

theorem near_setRow (w : World) (g : Nat) (cs : Array Value) : Near w (w.setRow g cs) g :=
  ⟨rfl, rfl, rfl, by simp [World.setRow], fun k _ hne => setRow_other w g k cs hne⟩

/-- Rows with one of them written in part. -/
theorem rows_write {A : Nat → Prop} {ι : Owns} {w w' : World} {n : Nat} {o : Own} {wd : Nat} {rows : List (List AV)} (hb : RowsOk w A ι n o wd rows) (hv : o.virt = false) {arr : Array Value} {el : TypeId}
    (hh : w.heap[o.blk]? = some (.cells arr el (0, 0))) {r c : Nat} {us : List Value} {cs : List AV} (hlen : us.length = cs.length) (hr : r < rows.length) (hc : c + cs.length ≤ wd)
    (hu : ∀ (j : Nat) (u : Value) (a : AV), us[j]? = some u → cs[j]? = some a → VR w A ι n u a) (hA : ∀ b, A b → w'.heap[b]? = w.heap[b]?)
    (hh' : w'.heap[o.blk]? = some (.cells (arr.toList.take (r * o.wd + c) ++ us ++ arr.toList.drop (r * o.wd + c + us.length)).toArray el (0, 0))) :
    RowsOk w' A ι n o wd (rows.set r (splice (rows.getD r []) c cs)) := by
  obtain ⟨h1, h2, h3, h4⟩ := hb
  rw [hv] at h4
  simp only [Bool.false_eq_true, if_false] at h4
  obtain ⟨arr', el', h5, h6, h7⟩ := h4
  rw [hh] at h5
  cases h5
  have hrow : rows[r]? = some (rows.getD r []) := by simp [List.getD, List.getElem?_eq_getElem hr]
  have hrl : (rows.getD r []).length = wd := h3 _ _ hrow
  have hsp : (splice (rows.getD r []) c cs).length = wd := by
    generalize rows.getD r [] = l at hrl
    simp [splice]; omega
  have hfit : r * o.wd + c + us.length ≤ arr.toList.length := by
    have : (r + 1) * wd ≤ o.cap * wd := Nat.mul_le_mul_right _ (by omega)
    rw [Nat.add_mul] at this
    have e1 : arr.toList.length = o.cap * wd := by rw [← h6]; simp
    rw [e1, h1, hlen]
    omega
  have hmono : ∀ {u a}, VR w A ι n u a → VR w' A ι n u a := fun h => h.mono (Nat.le_refl _) (fun _ h => h) hA (fun _ _ => rfl)
  refine ⟨h1, by simpa using h2, fun i row hi => ?_, ?_⟩
  · rw [List.getElem?_set] at hi
    split at hi
    · first | (cases hi; exact hsp) | (rw [if_pos hr] at hi; cases hi; exact hsp)
    · exact h3 i row hi
  · rw [hv]
    simp only [Bool.false_eq_true, if_false]
    refine ⟨_, el, hh', ?_, fun i row hi j a ha => ?_⟩
    · have := List.length_take_of_le (l := arr.toList) (i := r * o.wd + c) (by omega)
      simp only [List.size_toArray, List.length_append, this, List.length_drop]
      rw [← h6, ← Array.length_toList]
      omega
    · simp only [List.getElem?_toArray]
      rw [getElem?_splice _ _ _ _ hfit]
      rw [List.getElem?_set] at hi
      by_cases hri : r = i
      · subst hri
        rw [if_pos rfl] at hi
        first | cases hi | (rw [if_pos hr] at hi; cases hi)
        rw [splice, getElem?_splice _ _ _ _ (by omega)] at ha
        by_cases hjc : j < c
        · rw [if_pos hjc] at ha
          obtain ⟨v, g1, g2⟩ := h7 r _ hrow j a ha
          exact ⟨v, by rw [if_pos (by rw [h1]; omega)]; simpa using g1, hmono g2⟩
        · rw [if_neg hjc] at ha
          by_cases hjk : j < c + cs.length
          · rw [if_pos hjk] at ha
            have hlt : j - c < us.length := by omega
            refine ⟨us[j - c], ?_, hmono (hu (j - c) _ a (List.getElem?_eq_getElem hlt) ha)⟩
            rw [if_neg (by rw [h1]; omega), if_pos (by rw [h1]; omega), h1, show r * wd + j - (r * wd + c) = j - c by omega, List.getElem?_eq_getElem hlt]
          · rw [if_neg hjk] at ha
            obtain ⟨v, g1, g2⟩ := h7 r _ hrow j a ha
            exact ⟨v, by rw [if_neg (by rw [h1]; omega), if_neg (by rw [h1]; omega)]; simpa using g1, hmono g2⟩
      · rw [if_neg hri] at hi
        obtain ⟨v, g1, g2⟩ := h7 i row hi j a ha
        have hjw : j < wd := by rw [← h3 i row hi]; exact (List.getElem?_eq_some_iff.1 ha).1
        refine ⟨v, ?_, hmono g2⟩
        rcases Nat.lt_or_gt_of_ne hri with h | h
        · have : (r + 1) * wd ≤ i * wd := Nat.mul_le_mul_right _ (by omega)
          rw [Nat.add_mul] at this
          rw [if_neg (by rw [h1]; omega), if_neg (by rw [h1]; omega)]
          simpa using g1
        · have : (i + 1) * wd ≤ r * wd := Nat.mul_le_mul_right _ (by omega)
          rw [Nat.add_mul] at this
          rw [if_pos (by rw [h1]; omega)]
          simpa using g1

theorem RowsOk.heap {w A ι n o wd rows} (h : RowsOk w A ι n o wd rows) (hv : o.virt = false) : ∃ arr el, w.heap[o.blk]? = some (.cells arr el (0, 0)) ∧ arr.size = o.cap * wd ∧ o.wd = wd ∧ rows.length ≤ o.cap := by
  obtain ⟨h1, h2, h3, h4⟩ := h
  rw [hv] at h4
  simp only [Bool.false_eq_true, if_false] at h4
  obtain ⟨arr, el, h5, h6, _⟩ := h4
  exact ⟨arr, el, h5, h6, h1, h2⟩

theorem storeA_sound (hr : Real w A ι σ) (he : ∀ i, VR w A ι σ.n (τ i) (e i)) {t : TypeId} {x y : AV} {vx vy : Value} (hx : VR w A ι σ.n vx x) (hy : VR w A ι σ.n vy y) (h : storeA P t x y e σ K) :
    ∃ w', (Instr.storeAt t vx vy).run P w = .ok () w' ∧ Got τ w A ι σ K undef w' := by
  obtain ⟨i, hi, h⟩ := withTI_spec h
  cases hcs : avCells y with
  | none => simp [hcs] at h
  | some cs =>
    cases x with
    | ptr id r c =>
      simp only [hcs] at h
      obtain ⟨hcl, hcell, h⟩ := h
      obtain ⟨hl, hel⟩ := avCells_spec hy hcs
      cases hx with
      | ptr hn hv =>
        have hone : ∀ v ∈ vy.cells.toList, v.oneCell' = true := by
          intro v hvm
          obtain ⟨j, hj, hjv⟩ := List.getElem_of_mem hvm
          have hj' : vy.cells.toList[j]? = some v := by rw [List.getElem?_eq_getElem hj, hjv]
          have hjc : cs[j]? = some (cs[j]'(by omega)) := List.getElem?_eq_getElem (by omega)
          exact (hel j v _ hj' hjc).isCell (hcell _ (List.getElem_mem _))
        have fin : ∀ (n : Nat) (wd : Nat) (rows : List (List AV)) (B : List (List AV) → Blk), (σ.h id).live = true → RowsOk w A ι n (ι id) wd rows →
            (∀ (j : Nat) (u : Value) (a : AV), vy.cells.toList[j]? = some u → cs[j]? = some a → VR w A ι n u a) → (∀ w' rows', RowsOk w' A ι n (ι id) wd rows' → BlkOk w' A ι σ.n (ι id) (B rows')) → r < rows.length → c + cs.length ≤ wd →
            K .any e (σ.put id (B (rows.set r (splice (rows.getD r []) c cs)))) → ∃ w', (Instr.storeAt t (.pointer (some ⟨(ι id).blk, r * (ι id).wd + c, none⟩)) vy).run P w = .ok () w' ∧ Got τ w A ι σ K undef w' := by
          intro n wd rows B hlive hb hu hBB hrl hcw hK
          obtain ⟨arr, el, hh, hsz, hwd, hcap⟩ := hb.heap hv
          have hfit : r * (ι id).wd + c + vy.cells.toList.length ≤ arr.size := by
            have : (r + 1) * wd ≤ (ι id).cap * wd := Nat.mul_le_mul_right _ (by omega)
            rw [Nat.add_mul] at this
            rw [hsz, hwd, hl]
            omega
          have hst := run_storeCells_at P (ι id).blk (r * (ι id).wd + c) el vy.cells.toList 0 arr w hh (by simpa using hfit) hone
          simp only [Nat.add_zero] at hst
          have hrw := rows_write hb hv hh hl hrl hcw hu (fun b hb' => setRow_other w _ _ _ (fun hbe => hr.away b hb' ⟨id, hn, hlive, hv, hbe.symm⟩)) (setRow_heap w _ _ _ _ _ hh)
          refine ⟨_, ?_, Got.mk' hr he (hr.write hn hlive hv (near_setRow _ _ _) (hBB _ _ hrw)) (av := .any) .any hK⟩
          have hsz2 : vy.cells.size = i.cells := by rw [← hcl, ← hl]; simp
          simp [Instr.storeAt, Instr.sureAddr, storeVar, run_sizeOf' hi, hsz2, hst]
        have hb := hr.ok id hn
        cases hB : σ.h id with
        | dead => simp [hB] at h
        | flat wd rows =>
          simp only [hB] at h
          rw [hB] at hb
          obtain ⟨hfl, h1, h2, h3⟩ := h
          exact fin 0 wd rows (.flat wd) (by simp [hB, Blk.live]) hb (fun j u a h1 h2 => (hel j u a h1 h2).flat (hfl a (List.mem_of_getElem? h2))) (fun _ _ h => h) h1 h2 h3
        | deep wd rows =>
          simp only [hB] at h
          rw [hB] at hb
          obtain ⟨h1, h2, h3⟩ := h
          exact fin σ.n wd rows (.deep wd) (by simp [hB, Blk.live]) hb hel (fun _ _ h => h) h1 h2 h3
    | _ => simp [hcs] at h

theorem near_push (w : World) (o : Obj) (b0 : Nat) : Near w { w with heap := w.heap.push o } b0 :=
  ⟨rfl, rfl, rfl, by simp, fun k hk _ => by simp [Array.getElem?_push, Nat.ne_of_lt hk]⟩

/-- A new block with these cells, read as rows. -/
theorem new_block (hr : Real w A ι σ) (he : ∀ i, VR w A ι σ.n (τ i) (e i)) {w' : World} {arr : Array Value} {el : TypeId} (hh : w'.heap = w.heap.push (.cells arr el (0, 0))) (hos : w'.os = w.os) (htp : w'.tape = w.tape) (hou : w'.output = w.output)
    {cap wd : Nat} {rows : List (List AV)} (hsz : arr.size = cap * wd) (hcap : rows.length ≤ cap) (hwd : ∀ (i : Nat) (row : List AV), rows[i]? = some row → row.length = wd) {v : Value} {av : AV} {B : Blk} {n : Nat} (hn : n ≤ σ.n)
    (hB : ∀ w A ι m o, n ≤ m → RowsOk w A ι n o wd rows → BlkOk w A ι m o B)
    (hc : ∀ (i : Nat) (row : List AV), rows[i]? = some row → ∀ (j : Nat) (a : AV), row[j]? = some a → ∃ u, arr[i * wd + j]? = some u ∧ VR w A ι n u a)
    (hv : ∀ A ι' n, σ.n < n → ι' σ.n = ⟨w.heap.size, cap, wd, false⟩ → VR w' A ι' n v av) (hK : K av e (σ.new B)) : Got τ w A ι σ K v w' := by
  have hnear : Near w w' w.heap.size := ⟨hos, htp, hou, by simp [hh], fun k hk hne => by rw [hh, Array.getElem?_push, if_neg (by omega)]⟩
  refine Got.mk' hr he (hr.make (o := ⟨w.heap.size, cap, wd, false⟩) (b0 := w.heap.size) hnear (fun _ => ⟨rfl, by simp [hh]⟩) (fun h => Nat.lt_irrefl _ h) ?_) ?_ hK
  · refine hB _ _ _ _ _ (by omega) ⟨rfl, hcap, hwd, ?_⟩
    simp only [Bool.false_eq_true, if_false]
    refine ⟨arr, el, by simp [hh], hsz, fun i row hi j a ha => ?_⟩
    obtain ⟨u, h1, h2⟩ := hc i row hi j a ha
    exact ⟨u, h1, h2.mono (Nat.le_refl _) (fun _ h => h) (fun b hb => hnear.keep b (hr.inA b hb) (fun h => by have := hr.inA b hb; omega)) (fun id hid => if_neg (by omega))⟩
  · exact hv _ _ _ (by simp [St.new]) (by simp)

theorem run_newVar (t : TypeId) (v : Value) (w : World) : (newVar t v).run P w = .ok ⟨w.heap.size, 0, none⟩ { w with heap := w.heap.push (.cells v.cells t) } := by
  simp [newVar, newRow]

theorem allocA_sound (hr : Real w A ι σ) (he : ∀ i, VR w A ι σ.n (τ i) (e i)) {t : TypeId} {old : Value} (h : allocA P t e σ K) : Ran P (Instr.alloc t true old) τ w A ι σ K := by
  obtain ⟨i, hi, h⟩ := withTI_spec h
  obtain ⟨z, hz, hzc⟩ := run_zero' (P := P) hi w
  refine ⟨.pointer (some ⟨w.heap.size, 0, none⟩), { w with heap := w.heap.push (.cells z.cells t) }, ?_, ?_⟩
  · cases old <;> simp [Instr.alloc, hz, run_newVar]
  · refine new_block (w' := { w with heap := w.heap.push (.cells z.cells t) }) (arr := z.cells) (el := t) (rows := [i.zero.map .lit]) (B := .deep i.zero.length [i.zero.map .lit]) (av := .ptr σ.n 0 0) (cap := 1) (wd := i.zero.length) (n := σ.n) hr he rfl rfl rfl rfl (by simp [← hzc]) (by simp) ?_ (Nat.le_refl _) (fun w A ι m o hm h => ?_) ?_ (fun A ι' n hn ho => ?_) h
    · intro k row hk
      cases k with
      | zero => simp at hk; subst hk; simp
      | succ k => simp at hk
    · exact (show BlkOk w A ι σ.n o (.deep _ _) from h).mono hm (fun _ h => h) (fun _ _ => rfl) (fun _ _ => rfl) (fun _ _ => rfl)
    · intro k row hk j a ha
      cases k with
      | zero =>
        simp at hk
        subst hk
        rw [List.getElem?_map] at ha
        cases hzj : i.zero[j]? with
        | none => simp [hzj] at ha
        | some u =>
          simp [hzj] at ha
          subst ha
          exact ⟨u, by rw [← hzc] at hzj; simpa using hzj, .lit⟩
      | succ k => simp at hk
    · have := VR.ptr (w := { w with heap := w.heap.push (.cells z.cells t) }) (A := A) (ι := ι') (n := n) (id := σ.n) (r := 0) (c := 0) hn (by rw [ho])
      rw [ho] at this
      simp only [Nat.zero_mul, Nat.zero_add] at this
      exact this

theorem boxA_sound (hr : Real w A ι σ) (he : ∀ i, VR w A ι σ.n (τ i) (e i)) {t : TypeId} {x : AV} {vx : Value} (hx : VR w A ι σ.n vx x) (h : boxA x e σ K) : Ran P (Instr.box t vx) τ w A ι σ K := by
  unfold boxA at h
  split at h
  case h_2 => exact h.elim
  rename_i cs hcs
  obtain ⟨hl, hel⟩ := avCells_spec hx hcs
  refine ⟨.pointer (some ⟨w.heap.size, 0, none⟩), { w with heap := w.heap.push (.cells vx.cells t) }, by simp [Instr.box, run_newVar], ?_⟩
  refine new_block (w' := { w with heap := w.heap.push (.cells vx.cells t) }) (arr := vx.cells) (el := t) (rows := [cs]) (B := .deep cs.length [cs]) (av := .ptr σ.n 0 0) (cap := 1) (wd := cs.length) (n := σ.n) hr he rfl rfl rfl rfl (by simp [← hl]) (by simp) ?_ (Nat.le_refl _) (fun w A ι m o hm h => ?_) ?_ (fun A ι' n hn ho => ?_) h
  · intro k row hk
    cases k with
    | zero => simp at hk; subst hk; simp
    | succ k => simp at hk
  · exact (show BlkOk w A ι σ.n o (.deep _ _) from h).mono hm (fun _ h => h) (fun _ _ => rfl) (fun _ _ => rfl) (fun _ _ => rfl)
  · intro k row hk j a ha
    cases k with
    | zero =>
      simp at hk
      subst hk
      have hj : j < vx.cells.toList.length := by rw [hl]; exact (List.getElem?_eq_some_iff.1 ha).1
      have hju : vx.cells.toList[j]? = some (vx.cells.toList[j]) := List.getElem?_eq_getElem hj
      exact ⟨_, by rw [← Array.getElem?_toList, Nat.zero_mul, Nat.zero_add]; exact hju, hel j _ a hju ha⟩
    | succ k => simp at hk
  · have := VR.ptr (w := { w with heap := w.heap.push (.cells vx.cells t) }) (A := A) (ι := ι') (n := n) (id := σ.n) (r := 0) (c := 0) hn (by rw [ho])
    rw [ho] at this
    simp only [Nat.zero_mul, Nat.zero_add] at this
    exact this

end
end Go.Proofs.Qqz
