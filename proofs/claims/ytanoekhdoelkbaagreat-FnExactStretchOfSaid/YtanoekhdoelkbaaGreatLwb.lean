/- Contracts: the laws' measure of their arguments. -/
import Derived.Test.YtanoekhdoelkbaaGreatLwa
set_option linter.unusedSimpArgs false
set_option linter.unusedVariables false
namespace Go.Proofs.Qqz
open Go

set_option maxRecDepth 100000 in
set_option maxHeartbeats 1000000 in
theorem szInts_ok (l : List Int) (hb : l.length ≤ 9223372036854775807) (left : Int) (h0 : 0 ≤ left) (h1 : left ≤ 1048576) (e : Env) (σ : St) (K : KT)
    (h : ∀ r : Int, -1 ≤ r → r ≤ left → (0 ≤ r → l.length ≤ 1048576) → K (.lit (.int .i64 r)) e σ) : ACall Tryz.prog 94 [ints l, .lit (.int .i64 left)] e σ K := by
  refine ACall.pureW Tryz.func94 rfl Tryz.ntmps94 Tryz.results94 rfl rfl rfl ?_
  by_cases hc : left - (l.length : Int) < 0
  · simp -implicitDefEqProofs (disch := (first | omega | (simp only [go_sem] <;> omega) | fail)) only [go_sem, simprocAttr, hc, wrap_i64]
    exact h (-1) (by omega) (by omega) (by omega)
  · simp -implicitDefEqProofs (disch := (first | omega | (simp only [go_sem] <;> omega) | fail)) only [go_sem, simprocAttr, hc, wrap_i64]
    exact h _ (by omega) (by omega) (by omega)

set_option maxRecDepth 100000 in
set_option maxHeartbeats 1000000 in
theorem szBig_ok (neg : Bool) (l : List Int) (hb : l.length ≤ 9223372036854775807) (left : Int) (h0 : 0 ≤ left) (h1 : left ≤ 1048576) (e : Env) (σ : St) (K : KT)
    (h : ∀ r : Int, -1 ≤ r → r ≤ left → (0 ≤ r → l.length ≤ 1048576) → K (.lit (.int .i64 r)) e σ) : ACall Tryz.prog 93 [.agg [.lit (.bool neg), ints l], .lit (.int .i64 left)] e σ K := by
  refine ACall.pureW Tryz.func93 rfl Tryz.ntmps93 Tryz.results93 rfl rfl rfl ?_
  simp -implicitDefEqProofs (disch := (first | omega | (simp only [go_sem] <;> omega) | fail)) only [go_sem, simprocAttr]
  refine callF.plain (szInts_ok l hb left h0 h1 _ _ _ fun r q0 q1 q2 => ?_)
  by_cases hc : r < 0
  · simp -implicitDefEqProofs (disch := (first | omega | (simp only [go_sem] <;> omega) | fail)) only [go_sem, simprocAttr, hc]
    exact h (-1) (by omega) (by omega) (by omega)
  · simp -implicitDefEqProofs (disch := (first | omega | (simp only [go_sem] <;> omega) | fail)) only [go_sem, simprocAttr, hc]
    exact h r q0 q1 q2

def RV.big (r : RV) : Prop := r.mag.length ≤ 9223372036854775807 ∧ r.den.length ≤ 9223372036854775807
def RV.small (r : RV) : Prop := r.mag.length ≤ 1048576 ∧ r.den.length ≤ 1048576
set_option maxRecDepth 100000 in
set_option maxHeartbeats 1000000 in
theorem szRat_ok (x : RV) (hb : x.big) (left : Int) (h0 : 0 ≤ left) (h1 : left ≤ 1048576) (e : Env) (σ : St) (K : KT)
    (h : ∀ r : Int, -1 ≤ r → r ≤ left → (0 ≤ r → x.small) → K (.lit (.int .i64 r)) e σ) : ACall Tryz.prog 41 [ratV x, .lit (.int .i64 left)] e σ K := by
  unfold ratV
  refine ACall.pureW Tryz.func41 rfl Tryz.ntmps41 Tryz.results41 rfl rfl rfl ?_
  simp -implicitDefEqProofs (disch := (first | omega | (simp only [go_sem] <;> omega) | fail)) only [go_sem, simprocAttr]
  refine callF.plain (szBig_ok x.neg x.mag hb.1 left h0 h1 _ _ _ fun r q0 q1 q2 => ?_)
  by_cases hc : r < 0
  · simp -implicitDefEqProofs (disch := (first | omega | (simp only [go_sem] <;> omega) | fail)) only [go_sem, simprocAttr, hc]
    exact h (-1) (by omega) (by omega) (by omega)
  · simp -implicitDefEqProofs (disch := (first | omega | (simp only [go_sem] <;> omega) | fail)) only [go_sem, simprocAttr, hc]
    refine callF.plain (szInts_ok x.den hb.2 r (by omega) (by omega) _ _ _ fun r2 p0 p1 p2 => ?_)
    by_cases hc2 : r2 < 0
    · simp -implicitDefEqProofs (disch := (first | omega | (simp only [go_sem] <;> omega) | fail)) only [go_sem, simprocAttr, hc2]
      exact h (-1) (by omega) (by omega) (by omega)
    · simp -implicitDefEqProofs (disch := (first | omega | (simp only [go_sem] <;> omega) | fail)) only [go_sem, simprocAttr, hc2]
      exact h r2 p0 (by omega) fun hr => ⟨q2 (by omega), p2 hr⟩

def JV.big (j : JV) : Prop := j.name.size ≤ 9223372036854775807
def JV.small (j : JV) : Prop := j.name.size ≤ 1048576
set_option maxRecDepth 100000 in
set_option maxHeartbeats 1000000 in
theorem szJoint_ok (j : JV) (hb : j.big) (left : Int) (h0 : 0 ≤ left) (h1 : left ≤ 1048576) (e : Env) (σ : St) (K : KT)
    (h : ∀ r : Int, -1 ≤ r → r ≤ left → (0 ≤ r → j.small) → K (.lit (.int .i64 r)) e σ) : ACall Tryz.prog 92 [jointV j, .lit (.int .i64 left)] e σ K := by
  unfold jointV
  unfold JV.big at hb
  refine ACall.pureW Tryz.func92 rfl Tryz.ntmps92 Tryz.results92 rfl rfl rfl ?_
  by_cases hc : left - (j.name.size : Int) < 0
  · simp -implicitDefEqProofs (disch := (first | omega | (simp only [go_sem] <;> omega) | fail)) only [go_sem, simprocAttr, hc, wrap_i64]
    exact h (-1) (by omega) (by omega) (by omega)
  · simp -implicitDefEqProofs (disch := (first | omega | (simp only [go_sem] <;> omega) | fail)) only [go_sem, simprocAttr, hc, wrap_i64]
    exact h _ (by omega) (by omega) fun _ => by unfold JV.small; omega

set_option maxRecDepth 100000 in
set_option maxHeartbeats 1000000 in
theorem szMems_ok (l : List MV) (hb : l.length ≤ 9223372036854775807) (left : Int) (h0 : 0 ≤ left) (h1 : left ≤ 1048576) (e : Env) (σ : St) (K : KT)
    (h : ∀ r : Int, -1 ≤ r → r ≤ left → (0 ≤ r → l.length ≤ 1048576) → K (.lit (.int .i64 r)) e σ) : ACall Tryz.prog 40 [sl memRow l, .lit (.int .i64 left)] e σ K := by
  refine ACall.pureW Tryz.func40 rfl Tryz.ntmps40 Tryz.results40 rfl rfl rfl ?_
  by_cases hc : left - (l.length : Int) < 0
  · simp -implicitDefEqProofs (disch := (first | omega | (simp only [go_sem] <;> omega) | fail)) only [go_sem, simprocAttr, hc, wrap_i64]
    exact h (-1) (by omega) (by omega) (by omega)
  · simp -implicitDefEqProofs (disch := (first | omega | (simp only [go_sem] <;> omega) | fail)) only [go_sem, simprocAttr, hc, wrap_i64]
    exact h _ (by omega) (by omega) (by omega)

set_option maxRecDepth 100000 in
set_option maxHeartbeats 1000000 in
theorem szRats_ok (l : List RV) (hb : l.length ≤ 9223372036854775807 ∧ ∀ x ∈ l, RV.big x) (left : Int) (h0 : 0 ≤ left) (h1 : left ≤ 1048576) (e : Env) (σ : St) (K : KT)
    (h : ∀ r : Int, -1 ≤ r → r ≤ left → (0 ≤ r → l.length ≤ 1048576 ∧ ∀ x ∈ l, RV.small x) → K (.lit (.int .i64 r)) e σ) : ACall Tryz.prog 11 [sl ratRow l, .lit (.int .i64 left)] e σ K := by
  have hb1 := hb.1
  refine ACall.pureW Tryz.func11 rfl Tryz.ntmps11 Tryz.results11 rfl rfl rfl ?_
  by_cases hc : left - (l.length : Int) < 0
  · simp -implicitDefEqProofs (disch := (first | omega | (simp only [go_sem] <;> omega) | fail)) only [go_sem, simprocAttr, hc, wrap_i64]
    exact h (-1) (by omega) (by omega) (by omega)
  simp -implicitDefEqProofs (disch := (first | omega | (simp only [go_sem] <;> omega) | fail)) only [go_sem, simprocAttr, hc, wrap_i64]
  refine Sat.loopW (fun (t : Nat) e' σ' => ∃ (i : Nat) (r : Int), t = l.length - i ∧ i ≤ l.length ∧ e' 0 = sl ratRow l ∧ e' 1 = .lit (.int .i64 r) ∧ e' 5 = .lit (.int .i64 (i : Nat)) ∧ 0 ≤ r ∧ r ≤ left ∧ (∀ x ∈ l.take i, RV.small x) ∧ Old σ σ') (fun t => t) l.length rfl ?_ ?_
  · simp -implicitDefEqProofs (disch := (first | omega | (simp only [go_sem] <;> omega) | fail)) only [go_sem, simprocAttr]
    exact ⟨0, _, by omega, by omega, rfl, rfl, by omega, by omega, by simp⟩
  rintro t e1 σ1 ⟨i, r, rfl, hi, g0, g1, g5, hr0, hr1, hA, hO⟩
  by_cases hlt : i < l.length
  · have hlt' : (i : Int) < l.length := by omega
    have hx := getD_elem l i hlt default
    obtain ⟨x, hxe⟩ : ∃ x, l[i] = x := ⟨_, rfl⟩
    have hpre := hb.2 _ (List.getElem_mem hlt)
    rw [hxe] at hx hpre
    simp -implicitDefEqProofs (disch := (first | omega | (simp only [go_sem] <;> omega) | fail)) only [go_sem, simprocAttr, g0, g1, g5, hlt', hx, ratRow_eq]
    refine callF.plain (szRat_ok x hpre r hr0 (by omega) _ _ _ fun r2 q0 q1 q2 => ?_)
    by_cases hneg : r2 < 0
    · simp -implicitDefEqProofs (disch := (first | omega | (simp only [go_sem] <;> omega) | fail)) only [go_sem, simprocAttr, hneg, hO]
      exact h (-1) (by omega) (by omega) (by omega)
    · simp -implicitDefEqProofs (disch := (first | omega | (simp only [go_sem] <;> omega) | fail)) only [go_sem, simprocAttr, g0, g1, g5, hneg, wrap_i64]
      refine ⟨l.length - (i + 1), by omega, i + 1, r2, rfl, by omega, rfl, rfl, by omega, by omega, fun y hy => ?_, hO⟩
      rw [List.take_succ_eq_append_getElem hlt, List.mem_append] at hy
      rcases hy with hy | hy
      · exact hA y hy
      · rw [List.mem_singleton.1 hy, hxe]; exact q2 (by omega)
  · have hlt' : ¬ (i : Int) < l.length := by omega
    have hie : i = l.length := by omega
    subst hie
    rw [List.take_of_length_le (Nat.le_refl _)] at hA
    simp -implicitDefEqProofs (disch := (first | omega | (simp only [go_sem] <;> omega) | fail)) only [go_sem, simprocAttr, g0, g1, g5, hlt', hO]
    exact h r (by omega) hr1 fun _ => ⟨by omega, hA⟩

set_option maxRecDepth 100000 in
set_option maxHeartbeats 1000000 in
theorem szJoints_ok (l : List JV) (hb : l.length ≤ 9223372036854775807 ∧ ∀ x ∈ l, JV.big x) (left : Int) (h0 : 0 ≤ left) (h1 : left ≤ 1048576) (e : Env) (σ : St) (K : KT)
    (h : ∀ r : Int, -1 ≤ r → r ≤ left → (0 ≤ r → l.length ≤ 1048576 ∧ ∀ x ∈ l, JV.small x) → K (.lit (.int .i64 r)) e σ) : ACall Tryz.prog 39 [sl jointRow l, .lit (.int .i64 left)] e σ K := by
  have hb1 := hb.1
  refine ACall.pureW Tryz.func39 rfl Tryz.ntmps39 Tryz.results39 rfl rfl rfl ?_
  by_cases hc : left - (l.length : Int) < 0
  · simp -implicitDefEqProofs (disch := (first | omega | (simp only [go_sem] <;> omega) | fail)) only [go_sem, simprocAttr, hc, wrap_i64]
    exact h (-1) (by omega) (by omega) (by omega)
  simp -implicitDefEqProofs (disch := (first | omega | (simp only [go_sem] <;> omega) | fail)) only [go_sem, simprocAttr, hc, wrap_i64]
  refine Sat.loopW (fun (t : Nat) e' σ' => ∃ (i : Nat) (r : Int), t = l.length - i ∧ i ≤ l.length ∧ e' 0 = sl jointRow l ∧ e' 1 = .lit (.int .i64 r) ∧ e' 5 = .lit (.int .i64 (i : Nat)) ∧ 0 ≤ r ∧ r ≤ left ∧ (∀ x ∈ l.take i, JV.small x) ∧ Old σ σ') (fun t => t) l.length rfl ?_ ?_
  · simp -implicitDefEqProofs (disch := (first | omega | (simp only [go_sem] <;> omega) | fail)) only [go_sem, simprocAttr]
    exact ⟨0, _, by omega, by omega, rfl, rfl, by omega, by omega, by simp⟩
  rintro t e1 σ1 ⟨i, r, rfl, hi, g0, g1, g5, hr0, hr1, hA, hO⟩
  by_cases hlt : i < l.length
  · have hlt' : (i : Int) < l.length := by omega
    have hx := getD_elem l i hlt default
    obtain ⟨x, hxe⟩ : ∃ x, l[i] = x := ⟨_, rfl⟩
    have hpre := hb.2 _ (List.getElem_mem hlt)
    rw [hxe] at hx hpre
    simp -implicitDefEqProofs (disch := (first | omega | (simp only [go_sem] <;> omega) | fail)) only [go_sem, simprocAttr, g0, g1, g5, hlt', hx, jointRow_eq]
    refine callF.plain (szJoint_ok x hpre r hr0 (by omega) _ _ _ fun r2 q0 q1 q2 => ?_)
    by_cases hneg : r2 < 0
    · simp -implicitDefEqProofs (disch := (first | omega | (simp only [go_sem] <;> omega) | fail)) only [go_sem, simprocAttr, hneg, hO]
      exact h (-1) (by omega) (by omega) (by omega)
    · simp -implicitDefEqProofs (disch := (first | omega | (simp only [go_sem] <;> omega) | fail)) only [go_sem, simprocAttr, g0, g1, g5, hneg, wrap_i64]
      refine ⟨l.length - (i + 1), by omega, i + 1, r2, rfl, by omega, rfl, rfl, by omega, by omega, fun y hy => ?_, hO⟩
      rw [List.take_succ_eq_append_getElem hlt, List.mem_append] at hy
      rcases hy with hy | hy
      · exact hA y hy
      · rw [List.mem_singleton.1 hy, hxe]; exact q2 (by omega)
  · have hlt' : ¬ (i : Int) < l.length := by omega
    have hie : i = l.length := by omega
    subst hie
    rw [List.take_of_length_le (Nat.le_refl _)] at hA
    simp -implicitDefEqProofs (disch := (first | omega | (simp only [go_sem] <;> omega) | fail)) only [go_sem, simprocAttr, g0, g1, g5, hlt', hO]
    exact h r (by omega) hr1 fun _ => ⟨by omega, hA⟩

def SV.big (v : SV) : Prop := (v.joints.length ≤ 9223372036854775807 ∧ ∀ j ∈ v.joints, j.big) ∧ v.members.length ≤ 9223372036854775807
def SV.small (v : SV) : Prop := (v.joints.length ≤ 1048576 ∧ ∀ j ∈ v.joints, j.small) ∧ v.members.length ≤ 1048576
set_option maxRecDepth 100000 in
set_option maxHeartbeats 1000000 in
theorem szStruct_ok (v : SV) (hb : v.big) (left : Int) (h0 : 0 ≤ left) (h1 : left ≤ 1048576) (e : Env) (σ : St) (K : KT)
    (h : ∀ r : Int, -1 ≤ r → r ≤ left → (0 ≤ r → v.small) → K (.lit (.int .i64 r)) e σ) : ACall Tryz.prog 10 [structV v, .lit (.int .i64 left)] e σ K := by
  unfold structV
  refine ACall.pureW Tryz.func10 rfl Tryz.ntmps10 Tryz.results10 rfl rfl rfl ?_
  simp -implicitDefEqProofs (disch := (first | omega | (simp only [go_sem] <;> omega) | fail)) only [go_sem, simprocAttr]
  refine callF.plain (szJoints_ok v.joints hb.1 left h0 h1 _ _ _ fun r q0 q1 q2 => ?_)
  by_cases hc : r < 0
  · simp -implicitDefEqProofs (disch := (first | omega | (simp only [go_sem] <;> omega) | fail)) only [go_sem, simprocAttr, hc]
    exact h (-1) (by omega) (by omega) (by omega)
  · simp -implicitDefEqProofs (disch := (first | omega | (simp only [go_sem] <;> omega) | fail)) only [go_sem, simprocAttr, hc]
    refine callF.plain (szMems_ok v.members hb.2 r (by omega) (by omega) _ _ _ fun r2 p0 p1 p2 => ?_)
    by_cases hc2 : r2 < 0
    · simp -implicitDefEqProofs (disch := (first | omega | (simp only [go_sem] <;> omega) | fail)) only [go_sem, simprocAttr, hc2]
      exact h (-1) (by omega) (by omega) (by omega)
    · simp -implicitDefEqProofs (disch := (first | omega | (simp only [go_sem] <;> omega) | fail)) only [go_sem, simprocAttr, hc2]
      exact h r2 p0 (by omega) fun hr => ⟨q2 (by omega), p2 hr⟩

def bigQ (q : List RV) : Prop := q.length ≤ 9223372036854775807 ∧ ∀ r ∈ q, r.big
def smallQ (q : List RV) : Prop := q.length ≤ 1048576 ∧ ∀ r ∈ q, r.small
theorem SV.small.names {v : SV} (h : v.small) : ∀ j ∈ v.joints, j.name.size ≤ 1000000000 := fun j hj => by
  have := h.1.2 j hj; unfold JV.small at this; omega
theorem SV.small.lens {v : SV} (h : v.small) : v.joints.length ≤ 2000000 ∧ v.members.length ≤ 2000000 := by
  obtain ⟨⟨h1, _⟩, h2⟩ := h; omega
theorem smallQ.pre {q : List RV} (h : smallQ q) : ∀ r ∈ q, toRat_pre r := fun r hr => by
  obtain ⟨h1, h2⟩ := h.2 r hr; exact ⟨by omega, by omega⟩
theorem smallQ.short {q : List RV} (h : smallQ q) : ∀ r ∈ q, r.short := fun r hr => by
  obtain ⟨h1, h2⟩ := h.2 r hr; exact ⟨by omega, by omega⟩
end Go.Proofs.Qqz
