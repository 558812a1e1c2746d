/- Contracts: loads and densities. -/
import Derived.Test.YtanoekhdoelkbaaGreatStd
set_option linter.unusedSimpArgs false
set_option linter.unusedVariables false
namespace Go.Proofs.Qqz
open Go

def forceB (n : Int) : Bool := decide (-100 ≤ n) && decide (n ≤ 100)
def loadOkB (v : SV) (l : List Int) : Bool := decide (l.length = 2 * v.joints.length) && l.all forceB

set_option maxRecDepth 100000 in
set_option maxHeartbeats 1000000 in
theorem isForce_ok (c : Int) (e : Env) (σ : St) (K : KT) (h : K (.lit (.bool (forceB c))) e σ) : ACall Tryz.prog 113 [.lit (.int .i64 c)] e σ K := by
  unfold forceB at h
  refine ACall.pureW Tryz.func113 rfl Tryz.ntmps113 Tryz.results113 rfl rfl rfl ?_
  by_cases h0 : -100 ≤ c
  · by_cases h1 : c ≤ 100
    · simp -implicitDefEqProofs (disch := (first | omega | (simp only [go_sem] <;> omega) | fail)) only [go_sem, simprocAttr, h0, h1]
      simp [h0, h1] at h
      exact h
    · simp -implicitDefEqProofs (disch := (first | omega | (simp only [go_sem] <;> omega) | fail)) only [go_sem, simprocAttr, h0, h1]
      simp [h0, h1] at h
      exact h
  · simp -implicitDefEqProofs (disch := (first | omega | (simp only [go_sem] <;> omega) | fail)) only [go_sem, simprocAttr, h0]
    simp [h0] at h
    exact h

set_option maxRecDepth 100000 in
set_option maxHeartbeats 1000000 in
theorem fits1_ok (c : Int) (e : Env) (σ : St) (K : KT) (h : K (.lit (.bool (!forceB c))) e σ) : ACall Tryz.prog 112 [.lit (.int .i64 c)] e σ K := by
  refine ACall.pureW Tryz.func112 rfl Tryz.ntmps112 Tryz.results112 rfl rfl rfl ?_
  simp -implicitDefEqProofs (disch := (first | omega | (simp only [go_sem] <;> omega) | fail)) only [go_sem, simprocAttr]
  refine callF.plain (isForce_ok c _ _ _ ?_)
  simp -implicitDefEqProofs (disch := (first | omega | (simp only [go_sem] <;> omega) | fail)) only [go_sem, simprocAttr]
  exact h

set_option maxRecDepth 100000 in
set_option maxHeartbeats 1000000 in
theorem fitsLoad_ok (v : SV) (l : List Int) (hn : v.joints.length ≤ 2000000) (hl : l.length ≤ 1000000000) (k : Nat) (e : Env) (σ : St) (hk : k < σ.n) (hB : σ.h k = .deep 2 (structRows v)) (K : KT) (h : K (.lit (.bool (loadOkB v l))) e σ) :
    ACall Tryz.prog 64 [.ptr k 0 0, ints l] e σ K := by
  unfold structRows at hB
  unfold loadOkB at h
  refine ACall.pureW Tryz.func64 rfl Tryz.ntmps64 Tryz.results64 rfl rfl rfl ?_
  by_cases hc : l.length = 2 * v.joints.length
  · have hc' : (l.length : Int) = 2 * (v.joints.length : Int) := by omega
    simp -implicitDefEqProofs (disch := (first | omega | (simp only [go_sem] <;> omega) | fail)) only [go_sem, simprocAttr, hB, hc', wrap_i64]
    refine callF.plain ?_
    refine ACall.eq_args (l' := [ints l, .clo 112 []]) (by simp -implicitDefEqProofs (disch := (first | omega | (simp only [go_sem] <;> omega) | fail)) only [go_sem, simprocAttr]) ?_
    refine containsInts_ok _ [] (fun n => !forceB n) l hl _ _ rfl (fun x _ e K h => fits1_ok x e _ K h) _ ?_
    rw [← List.not_all_eq_any_not]
    rw [decide_eq_true hc] at h
    simp -implicitDefEqProofs (disch := (first | omega | (simp only [go_sem] <;> omega) | fail)) only [go_sem, simprocAttr]
    simpa using h
  · have hc' : ¬ (l.length : Int) = 2 * (v.joints.length : Int) := by omega
    rw [decide_eq_false hc] at h
    simp -implicitDefEqProofs (disch := (first | omega | (simp only [go_sem] <;> omega) | fail)) only [go_sem, simprocAttr, hB, hc', wrap_i64]
    exact h

set_option maxRecDepth 100000 in
set_option maxHeartbeats 1000000 in
theorem sloadOk_ok (v : SV) (l : List Int) (hs : ∀ j ∈ v.joints, j.name.size ≤ 1000000000) (hn : v.joints.length ≤ 2000000) (hl : l.length ≤ 1000000000) (e : Env) (σ : St) (K : KT) (h : K (.lit (.bool (structOkB v && loadOkB v l))) e σ) :
    ACall Tryz.prog 60 [structV v, ints l] e σ K := by
  unfold loadOkB at h
  unfold structV
  refine ACall.pureW Tryz.func60 rfl Tryz.ntmps60 Tryz.results60 rfl rfl rfl ?_
  simp -implicitDefEqProofs (disch := (first | omega | (simp only [go_sem] <;> omega) | fail)) only [go_sem, simprocAttr]
  refine callF.plain (sstructOk_ok v hs _ _ _ ?_)
  cases ho : structOkB v with
  | false =>
    rw [ho] at h
    simp -implicitDefEqProofs (disch := (first | omega | (simp only [go_sem] <;> omega) | fail)) only [go_sem, simprocAttr]
    exact h
  | true =>
    rw [ho] at h
    by_cases hc : l.length = 2 * v.joints.length
    · have hc' : (l.length : Int) = 2 * (v.joints.length : Int) := by omega
      rw [decide_eq_true hc] at h
      simp -implicitDefEqProofs (disch := (first | omega | (simp only [go_sem] <;> omega) | fail)) only [go_sem, simprocAttr, hc', wrap_i64]
      refine Sat.loopW (fun (t : Nat) e' σ' => ∃ i, t = l.length - i ∧ i ≤ l.length ∧ e' 19 = sl intRow l ∧ e' 20 = .lit (.int .i64 l.length) ∧ e' 21 = .lit (.int .i64 (i : Nat)) ∧ (l.take i).all forceB = true ∧ Old σ σ') (fun t => t) l.length rfl ?_ ?_
      · simp -implicitDefEqProofs (disch := (first | omega | (simp only [go_sem] <;> omega) | fail)) only [go_sem, simprocAttr, hc']
        exact ⟨0, by omega, by omega, rfl, by simp⟩
      rintro t e1 σ1 ⟨i, rfl, hi, h19, h20, h21, hA, hO⟩
      by_cases hlt : i < l.length
      · have hlt' : (i : Int) < l.length := by omega
        have hx := getD_elem l i hlt 0
        simp -implicitDefEqProofs (disch := (first | omega | (simp only [go_sem] <;> omega) | fail)) only [go_sem, simprocAttr, h19, h20, h21, hlt', getD_int, hx]
        refine callF.plain (sin_ok _ _ _ _ _ _ ?_)
        have hp2 : (decide (-100 ≤ l[i]) && decide (l[i] ≤ 100)) = forceB l[i] := rfl
        rw [hp2]
        by_cases hpx : forceB l[i] = true
        · simp -implicitDefEqProofs (disch := (first | omega | (simp only [go_sem] <;> omega) | fail)) only [go_sem, simprocAttr, hpx, h19, h20, h21, wrap_i64]
          exact ⟨l.length - (i + 1), by omega, i + 1, rfl, by omega, rfl, all_take_succ hlt hA hpx, hO⟩
        · have hpx' : forceB l[i] = false := by simpa using hpx
          rw [all_not hlt hpx', Bool.and_false, Bool.and_false] at h
          simp -implicitDefEqProofs (disch := (first | omega | (simp only [go_sem] <;> omega) | fail)) only [go_sem, simprocAttr, hpx', hO]
          exact h
      · have hlt' : ¬ (i : Int) < l.length := by omega
        have hie : i = l.length := by omega
        subst hie
        rw [List.take_of_length_le (Nat.le_refl _)] at hA
        rw [hA] at h
        simp -implicitDefEqProofs (disch := (first | omega | (simp only [go_sem] <;> omega) | fail)) only [go_sem, simprocAttr, h19, h20, h21, hlt', hO]
        exact h
    · have hc' : ¬ (l.length : Int) = 2 * (v.joints.length : Int) := by omega
      rw [decide_eq_false hc] at h
      simp -implicitDefEqProofs (disch := (first | omega | (simp only [go_sem] <;> omega) | fail)) only [go_sem, simprocAttr, hc', wrap_i64]
      exact h

def densB (v : SV) (q : List RV) : Bool := structOkB v && decide (q.length = v.members.length) && q.all fun r => r.fr.isSome

set_option maxRecDepth 100000 in
set_option maxHeartbeats 1000000 in
theorem densities_ok (v : SV) (q : List RV) (hs : ∀ j ∈ v.joints, j.name.size ≤ 1000000000) (hq : q.length ≤ 2000000) (k : Nat) (e : Env) (σ : St) (hk : k < σ.n) (hB : σ.h k = .deep 2 (structRows v)) (K : KT)
    (h : K (.tup (if densB v q then [sl frRow (q.map RV.fr), .lit (.bool true)] else [.ps [], .lit (.bool false)])) e σ) : ACall Tryz.prog 52 [.ptr k 0 0, sl ratRow q] e σ K := by
  unfold structRows at hB
  unfold densB at h
  refine ACall.pureW Tryz.func52 rfl Tryz.ntmps52 Tryz.results52 rfl rfl rfl ?_
  by_cases hc : q.length = v.members.length
  · have hc' : (q.length : Int) = v.members.length := by omega
    simp -implicitDefEqProofs (disch := (first | omega | (simp only [go_sem] <;> omega) | fail)) only [go_sem, simprocAttr, hB, hc']
    refine callF.plain (structOk_ok v hs _ _ _ ?_)
    cases ho : structOkB v with
    | false =>
      rw [ho] at h
      simp -implicitDefEqProofs (disch := (first | omega | (simp only [go_sem] <;> omega) | fail)) only [go_sem, simprocAttr]
      exact h
    | true =>
      rw [ho, decide_eq_true hc] at h
      simp -implicitDefEqProofs (disch := (first | omega | (simp only [go_sem] <;> omega) | fail)) only [go_sem, simprocAttr]
      refine callF.plain (loads_ok q hq _ _ _ ?_)
      cases ha : (q.all fun r => r.fr.isSome) with
      | false =>
        rw [ha] at h
        simp -implicitDefEqProofs (disch := (first | omega | (simp only [go_sem] <;> omega) | fail)) only [go_sem, simprocAttr]
        exact h
      | true =>
        rw [ha] at h
        simp -implicitDefEqProofs (disch := (first | omega | (simp only [go_sem] <;> omega) | fail)) only [go_sem, simprocAttr]
        exact h
  · have hc' : ¬ (q.length : Int) = v.members.length := by omega
    rw [decide_eq_false hc, Bool.and_false] at h
    simp -implicitDefEqProofs (disch := (first | omega | (simp only [go_sem] <;> omega) | fail)) only [go_sem, simprocAttr, hB, hc']
    exact h

theorem isSome_ratOf (r : RV) : r.fr.isSome = ratOkB r.neg r.mag r.den := by
  unfold RV.fr ratOf
  cases h : ratOkB r.neg r.mag r.den <;> simp

/-- The lists of a value are not too long to be walked. -/
def RV.short (r : RV) : Prop := r.mag.length ≤ 1000000000 ∧ r.den.length ≤ 1000000000

set_option maxRecDepth 100000 in
set_option maxHeartbeats 1000000 in
theorem svalid_ok (q : List RV) (hq : q.length ≤ 2000000) (hsh : ∀ r ∈ q, r.short) (e : Env) (σ : St) (K : KT) (h : K (.lit (.bool (q.all fun r => r.fr.isSome))) e σ) : ACall Tryz.prog 78 [sl ratRow q] e σ K := by
  refine ACall.pureW Tryz.func78 rfl Tryz.ntmps78 Tryz.results78 rfl rfl rfl ?_
  simp -implicitDefEqProofs (disch := (first | omega | (simp only [go_sem] <;> omega) | fail)) only [go_sem, simprocAttr]
  refine Sat.loopW (fun (t : Nat) e' σ' => ∃ i, t = q.length - i ∧ i ≤ q.length ∧ e' 5 = sl ratRow q ∧ e' 6 = .lit (.int .i64 q.length) ∧ e' 7 = .lit (.int .i64 (i : Nat)) ∧ (q.take i).all (fun r => r.fr.isSome) = true ∧ Old σ σ') (fun t => t) q.length rfl ?_ ?_
  · simp -implicitDefEqProofs (disch := (first | omega | (simp only [go_sem] <;> omega) | fail)) only [go_sem, simprocAttr]
    exact ⟨0, by omega, by omega, rfl, by simp⟩
  rintro t e1 σ1 ⟨i, rfl, hi, h5, h6, h7, hA, hO⟩
  have hOn := hO.1
  by_cases hlt : i < q.length
  · have hlt' : (i : Int) < q.length := by omega
    have hx := getD_elem q i hlt default
    have hshi := hsh _ (List.getElem_mem hlt)
    simp -implicitDefEqProofs (disch := (first | omega | (simp only [go_sem] <;> omega) | fail)) only [go_sem, simprocAttr, h5, h6, h7, hlt', hx, ratRow_eq]
    refine callF.plain (sratOk_ok q[i] hshi.1 hshi.2 _ _ _ ?_)
    rw [← isSome_ratOf]
    by_cases hpx : q[i].fr.isSome = true
    · simp -implicitDefEqProofs (disch := (first | omega | (simp only [go_sem] <;> omega) | fail)) only [go_sem, simprocAttr, hpx, h5, h6, h7, wrap_i64]
      exact ⟨q.length - (i + 1), by omega, i + 1, rfl, by omega, rfl, all_take_succ hlt hA hpx, by simp -implicitDefEqProofs (disch := (first | omega | (simp only [go_sem] <;> omega) | fail)) only [go_sem, simprocAttr, hO]⟩
    · have hpx' : q[i].fr.isSome = false := by simpa using hpx
      have hbad : (q.all fun r => r.fr.isSome) = false := all_not (p := fun r : RV => r.fr.isSome) hlt hpx'
      rw [hbad] at h
      simp -implicitDefEqProofs (disch := (first | omega | (simp only [go_sem] <;> omega) | fail)) only [go_sem, simprocAttr, hpx', hO]
      exact h
  · have hlt' : ¬ (i : Int) < q.length := by omega
    have hie : i = q.length := by omega
    subst hie
    rw [List.take_of_length_le (Nat.le_refl _)] at hA
    rw [hA] at h
    simp -implicitDefEqProofs (disch := (first | omega | (simp only [go_sem] <;> omega) | fail)) only [go_sem, simprocAttr, h5, h6, h7, hlt', hO]
    exact h

set_option maxRecDepth 100000 in
set_option maxHeartbeats 1000000 in
theorem sfits_ok (v : SV) (q : List RV) (hs : ∀ j ∈ v.joints, j.name.size ≤ 1000000000) (hq : q.length ≤ 2000000) (hsh : ∀ r ∈ q, r.short) (e : Env) (σ : St) (K : KT) (h : K (.lit (.bool (densB v q))) e σ) : ACall Tryz.prog 42 [structV v, sl ratRow q] e σ K := by
  unfold densB at h
  unfold structV
  refine ACall.pureW Tryz.func42 rfl Tryz.ntmps42 Tryz.results42 rfl rfl rfl ?_
  simp -implicitDefEqProofs (disch := (first | omega | (simp only [go_sem] <;> omega) | fail)) only [go_sem, simprocAttr]
  refine callF.plain (sstructOk_ok v hs _ _ _ ?_)
  cases ho : structOkB v with
  | false =>
    rw [ho] at h
    simp -implicitDefEqProofs (disch := (first | omega | (simp only [go_sem] <;> omega) | fail)) only [go_sem, simprocAttr]
    exact h
  | true =>
    rw [ho] at h
    by_cases hc : q.length = v.members.length
    · have hc' : (q.length : Int) = v.members.length := by omega
      rw [decide_eq_true hc] at h
      simp -implicitDefEqProofs (disch := (first | omega | (simp only [go_sem] <;> omega) | fail)) only [go_sem, simprocAttr, hc']
      refine callF.plain (svalid_ok q hq hsh _ _ _ ?_)
      simp -implicitDefEqProofs (disch := (first | omega | (simp only [go_sem] <;> omega) | fail)) only [go_sem, simprocAttr]
      exact h
    · have hc' : ¬ (q.length : Int) = v.members.length := by omega
      rw [decide_eq_false hc] at h
      simp -implicitDefEqProofs (disch := (first | omega | (simp only [go_sem] <;> omega) | fail)) only [go_sem, simprocAttr, hc']
      exact h
end Go.Proofs.Qqz
