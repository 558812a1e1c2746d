/- Contracts: the pull of the members on a joint. -/
import Derived.Test.YtanoekhdoelkbaaGreatSte
set_option linter.unusedSimpArgs false
set_option linter.unusedVariables false
namespace Go.Proofs.Qqz
open Go

def pullStep (v : SV) (q : Nat → Fr) (joint : Int) (acc : Fr × Fr) (i : Nat) : Fr × Fr :=
  if joint = (v.members.getD i default).a then (addF acc.1 (mulF (q i) (wholeF (vecX v i))), addF acc.2 (mulF (q i) (wholeF (vecY v i))))
  else if joint = (v.members.getD i default).b then (addF acc.1 (mulF (q i) (wholeF (-vecX v i))), addF acc.2 (mulF (q i) (wholeF (-vecY v i))))
  else acc
def pullTo (v : SV) (q : Nat → Fr) (joint : Int) (i : Nat) : Fr × Fr := (List.range i).foldl (pullStep v q joint) (wholeF 0, wholeF 0)
def pullF (v : SV) (q : Nat → Fr) (joint : Int) : Fr × Fr := pullTo v q joint v.members.length
theorem pullTo_succ (v : SV) (q : Nat → Fr) (joint : Int) (i : Nat) : pullTo v q joint (i + 1) = pullStep v q joint (pullTo v q joint i) i := by
  simp [pullTo, List.range_succ, List.foldl_append]

theorem whole_small {n : Int} (h : -1000000 ≤ n ∧ n ≤ 1000000) : (wholeF n).ok := wholeF_ok (by omega) (by omega)

theorem pullTo_ok {v : SV} (F : SFacts v) {q : Nat → Fr} (hq : ∀ i, i < v.members.length → (q i).ok) (joint : Int) : ∀ i, i ≤ v.members.length → (pullTo v q joint i).1.ok ∧ (pullTo v q joint i).2.ok
  | 0, _ => ⟨whole_small (by omega), whole_small (by omega)⟩
  | i + 1, h => by
    have ih := pullTo_ok F hq joint i (by omega)
    have hv := F.vec (i := i) (by omega)
    have hqi := hq i (by omega)
    rw [pullTo_succ]
    unfold pullStep
    split
    · exact ⟨addF_ok ih.1 (mulF_ok hqi (whole_small (by omega))), addF_ok ih.2 (mulF_ok hqi (whole_small (by omega)))⟩
    · split
      · exact ⟨addF_ok ih.1 (mulF_ok hqi (whole_small (by omega))), addF_ok ih.2 (mulF_ok hqi (whole_small (by omega)))⟩
      · exact ih

set_option maxRecDepth 100000 in
set_option maxHeartbeats 1000000 in
theorem pull_ok (v : SV) (F : SFacts v) (qs : List Fr) (hl : qs.length = v.members.length) (hq : ∀ x ∈ qs, x.ok) (joint : Int) (k : Nat) (e : Env) (σ : St) (hk : k < σ.n) (hB : σ.h k = .deep 2 (structRows v)) (K : KT)
    (h : K (.tup [frA (pullF v (fun i => qs.getD i default) joint).1, frA (pullF v (fun i => qs.getD i default) joint).2]) e σ) : ACall Tryz.prog 53 [.ptr k 0 0, sl frRow qs, .lit (.int .i64 joint)] e σ K := by
  have hB0 := hB
  unfold structRows at hB0
  have hqi : ∀ i, i < v.members.length → ((fun i => qs.getD i default) i).ok := by
    intro i hi
    simp only
    rw [getD_elem qs i (by omega)]
    exact hq _ (List.getElem_mem _)
  refine ACall.pureW Tryz.func53 rfl Tryz.ntmps53 Tryz.results53 rfl rfl rfl ?_
  simp -implicitDefEqProofs (disch := (first | omega | (simp only [go_sem] <;> omega) | fail)) only [go_sem, simprocAttr, hB0]
  refine callF.plain (whole_ok 0 (by omega) (by omega) _ _ _ ?_)
  simp -implicitDefEqProofs (disch := (first | omega | (simp only [go_sem] <;> omega) | fail)) only [go_sem, simprocAttr, hB0]
  refine callF.plain (whole_ok 0 (by omega) (by omega) _ _ _ ?_)
  simp -implicitDefEqProofs (disch := (first | omega | (simp only [go_sem] <;> omega) | fail)) only [go_sem, simprocAttr, hB0]
  refine Sat.loopW (fun (t : Nat) e' σ' => ∃ i, t = v.members.length - i ∧ i ≤ v.members.length ∧ e' 0 = .ptr k 0 0 ∧ e' 1 = sl frRow qs ∧ e' 2 = .lit (.int .i64 joint) ∧ e' 8 = frA (pullTo v (fun i => qs.getD i default) joint i).1 ∧ e' 9 = frA (pullTo v (fun i => qs.getD i default) joint i).2 ∧ e' 19 = sl memRow v.members ∧ e' 20 = .lit (.int .i64 v.members.length) ∧ e' 21 = .lit (.int .i64 (i : Nat)) ∧ Old σ σ') (fun t => t) v.members.length rfl ?_ ?_
  · simp -implicitDefEqProofs (disch := (first | omega | (simp only [go_sem] <;> omega) | fail)) only [go_sem, simprocAttr]
    exact ⟨0, by omega, by omega, rfl, rfl, rfl⟩
  rintro t e1 σ1 ⟨i, rfl, hi, h0, h1, h2, h8, h9, h19, h20, h21, hO⟩
  have hOn := hO.1
  have hB1 : σ1.h k = .deep 2 (structRows v) := by rw [hO.2 k hk]; exact hB
  have hok := pullTo_ok F hqi joint i hi
  have hnm := F.nm
  by_cases hlt : i < v.members.length
  · have hlt' : (i : Int) < v.members.length := by omega
    have hlq : (i : Int) < qs.length := by omega
    obtain ⟨m, hm⟩ : ∃ m, v.members.getD i default = m := ⟨_, rfl⟩
    have hsucc := pullTo_succ v (fun i => qs.getD i default) joint i
    have hvec := F.vec hlt
    have hqk := hqi i hlt
    unfold pullStep at hsucc
    rw [hm] at hsucc
    simp only at hsucc hqk
    obtain ⟨x, hx⟩ : ∃ x, qs.getD i default = x := ⟨_, rfl⟩
    rw [hx] at hsucc hqk
    simp -implicitDefEqProofs (disch := (first | omega | (simp only [go_sem] <;> omega) | fail)) only [go_sem, simprocAttr, h0, h1, h2, h8, h9, h19, h20, h21, hlt', hm, memRow_eq]
    refine callF.plain ?_
    refine ACall.eq_args (l' := [.ptr k 0 0, .lit (.int .i64 (i : Nat))]) (by simp -implicitDefEqProofs (disch := (first | omega | (simp only [go_sem] <;> omega) | fail)) only [go_sem, simprocAttr]) ?_
    refine vector_ok v F i hlt k _ _ (by simp -implicitDefEqProofs (disch := (first | omega | (simp only [go_sem] <;> omega) | fail)) only [go_sem, simprocAttr]; omega) (by simp -implicitDefEqProofs (disch := (first | omega | (simp only [go_sem] <;> omega) | fail)) only [go_sem, simprocAttr, hB1]) _ ?_
    have nvx : ∀ a : Int, 0 - a = -a := fun a => by omega
    by_cases ha : joint = m.a
    · rw [if_pos ha] at hsucc
      have ha' := eq_true ha
      simp -implicitDefEqProofs (disch := (first | omega | (simp only [go_sem] <;> omega) | fail)) only [go_sem, simprocAttr, h0, h1, h2, h8, h9, h19, h20, h21, hm, memRow_eq, ha']
      refine Sat.drawn0 [] mixed (by kernel_rfl) ?_
      simp -implicitDefEqProofs (disch := (first | omega | (simp only [go_sem] <;> omega) | fail)) only [go_sem, simprocAttr, h0, h1, h2, h8, h9, h19, h20, h21, hlq, hx, frRow_eq]
      refine exQ.intro (whole_ok (vecX v i) (by omega) (by omega) _ _ _ ⟨rfl, rfl⟩) ?_
      try simp -implicitDefEqProofs (disch := (first | omega | (simp only [go_sem] <;> omega) | fail)) only [go_sem, simprocAttr, h0, h1, h2, h8, h9, h19, h20, h21, hlq, hx, frRow_eq]
      refine exQ.intro (mul_ok x (wholeF (vecX v i)) hqk (whole_small (by omega)) _ _ _ ⟨rfl, rfl⟩) ?_
      try simp -implicitDefEqProofs (disch := (first | omega | (simp only [go_sem] <;> omega) | fail)) only [go_sem, simprocAttr, h0, h1, h2, h8, h9, h19, h20, h21, hlq, hx, frRow_eq]
      refine exQ.intro (add_ok _ (mulF x (wholeF (vecX v i))) hok.1 (mulF_ok hqk (whole_small (by omega))) _ _ _ ⟨rfl, rfl⟩) ?_
      try simp -implicitDefEqProofs (disch := (first | omega | (simp only [go_sem] <;> omega) | fail)) only [go_sem, simprocAttr, h0, h1, h2, h8, h9, h19, h20, h21, hlq, hx, frRow_eq]
      refine Sat.drawn0 [] mixed (by kernel_rfl) ?_
      simp -implicitDefEqProofs (disch := (first | omega | (simp only [go_sem] <;> omega) | fail)) only [go_sem, simprocAttr, h0, h1, h2, h8, h9, h19, h20, h21, hlq, hx, frRow_eq]
      refine exQ.intro (whole_ok (vecY v i) (by omega) (by omega) _ _ _ ⟨rfl, rfl⟩) ?_
      try simp -implicitDefEqProofs (disch := (first | omega | (simp only [go_sem] <;> omega) | fail)) only [go_sem, simprocAttr, h0, h1, h2, h8, h9, h19, h20, h21, hlq, hx, frRow_eq]
      refine exQ.intro (mul_ok x (wholeF (vecY v i)) hqk (whole_small (by omega)) _ _ _ ⟨rfl, rfl⟩) ?_
      try simp -implicitDefEqProofs (disch := (first | omega | (simp only [go_sem] <;> omega) | fail)) only [go_sem, simprocAttr, h0, h1, h2, h8, h9, h19, h20, h21, hlq, hx, frRow_eq]
      refine exQ.intro (add_ok _ (mulF x (wholeF (vecY v i))) hok.2 (mulF_ok hqk (whole_small (by omega))) _ _ _ ⟨rfl, rfl⟩) ?_
      simp -implicitDefEqProofs (disch := (first | omega | (simp only [go_sem] <;> omega) | fail)) only [go_sem, simprocAttr, h0, h1, h2, h8, h9, h19, h20, h21, wrap_i64]
      refine ⟨v.members.length - (i + 1), by omega, i + 1, rfl, by omega, ?_, ?_, rfl, by simp -implicitDefEqProofs (disch := (first | omega | (simp only [go_sem] <;> omega) | fail)) only [go_sem, simprocAttr, hO]⟩
      · rw [hsucc]
      · rw [hsucc]
    · rw [if_neg ha] at hsucc
      have ha' := eq_false ha
      by_cases hb : joint = m.b
      · rw [if_pos hb] at hsucc
        have hb' := eq_true hb
        simp -implicitDefEqProofs (disch := (first | omega | (simp only [go_sem] <;> omega) | fail)) only [go_sem, simprocAttr, h0, h1, h2, h8, h9, h19, h20, h21, hm, memRow_eq, ha', hb', wrap_i64, nvx]
        refine Sat.drawn0 [] mixed (by kernel_rfl) ?_
        simp -implicitDefEqProofs (disch := (first | omega | (simp only [go_sem] <;> omega) | fail)) only [go_sem, simprocAttr, h0, h1, h2, h8, h9, h19, h20, h21, hlq, hx, frRow_eq]
        refine exQ.intro (whole_ok (-vecX v i) (by omega) (by omega) _ _ _ ⟨rfl, rfl⟩) ?_
        try simp -implicitDefEqProofs (disch := (first | omega | (simp only [go_sem] <;> omega) | fail)) only [go_sem, simprocAttr, h0, h1, h2, h8, h9, h19, h20, h21, hlq, hx, frRow_eq]
        refine exQ.intro (mul_ok x (wholeF (-vecX v i)) hqk (whole_small (by omega)) _ _ _ ⟨rfl, rfl⟩) ?_
        try simp -implicitDefEqProofs (disch := (first | omega | (simp only [go_sem] <;> omega) | fail)) only [go_sem, simprocAttr, h0, h1, h2, h8, h9, h19, h20, h21, hlq, hx, frRow_eq]
        refine exQ.intro (add_ok _ (mulF x (wholeF (-vecX v i))) hok.1 (mulF_ok hqk (whole_small (by omega))) _ _ _ ⟨rfl, rfl⟩) ?_
        try simp -implicitDefEqProofs (disch := (first | omega | (simp only [go_sem] <;> omega) | fail)) only [go_sem, simprocAttr, h0, h1, h2, h8, h9, h19, h20, h21, hlq, hx, frRow_eq]
        refine Sat.drawn0 [] mixed (by kernel_rfl) ?_
        simp -implicitDefEqProofs (disch := (first | omega | (simp only [go_sem] <;> omega) | fail)) only [go_sem, simprocAttr, h0, h1, h2, h8, h9, h19, h20, h21, hlq, hx, frRow_eq]
        refine exQ.intro (whole_ok (-vecY v i) (by omega) (by omega) _ _ _ ⟨rfl, rfl⟩) ?_
        try simp -implicitDefEqProofs (disch := (first | omega | (simp only [go_sem] <;> omega) | fail)) only [go_sem, simprocAttr, h0, h1, h2, h8, h9, h19, h20, h21, hlq, hx, frRow_eq]
        refine exQ.intro (mul_ok x (wholeF (-vecY v i)) hqk (whole_small (by omega)) _ _ _ ⟨rfl, rfl⟩) ?_
        try simp -implicitDefEqProofs (disch := (first | omega | (simp only [go_sem] <;> omega) | fail)) only [go_sem, simprocAttr, h0, h1, h2, h8, h9, h19, h20, h21, hlq, hx, frRow_eq]
        refine exQ.intro (add_ok _ (mulF x (wholeF (-vecY v i))) hok.2 (mulF_ok hqk (whole_small (by omega))) _ _ _ ⟨rfl, rfl⟩) ?_
        simp -implicitDefEqProofs (disch := (first | omega | (simp only [go_sem] <;> omega) | fail)) only [go_sem, simprocAttr, h0, h1, h2, h8, h9, h19, h20, h21, wrap_i64]
        refine ⟨v.members.length - (i + 1), by omega, i + 1, rfl, by omega, ?_, ?_, rfl, by simp -implicitDefEqProofs (disch := (first | omega | (simp only [go_sem] <;> omega) | fail)) only [go_sem, simprocAttr, hO]⟩
        · rw [hsucc]
        · rw [hsucc]
      · rw [if_neg hb] at hsucc
        have hb' := eq_false hb
        simp -implicitDefEqProofs (disch := (first | omega | (simp only [go_sem] <;> omega) | fail)) only [go_sem, simprocAttr, h0, h1, h2, h8, h9, h19, h20, h21, hm, memRow_eq, ha', hb', wrap_i64]
        refine ⟨v.members.length - (i + 1), by omega, i + 1, rfl, by omega, ?_, ?_, rfl, by simp -implicitDefEqProofs (disch := (first | omega | (simp only [go_sem] <;> omega) | fail)) only [go_sem, simprocAttr, hO]⟩
        · rw [hsucc]
        · rw [hsucc]
  · have hlt' : ¬ (i : Int) < v.members.length := by omega
    have hie : i = v.members.length := by omega
    subst hie
    simp -implicitDefEqProofs (disch := (first | omega | (simp only [go_sem] <;> omega) | fail)) only [go_sem, simprocAttr, h8, h9, h19, h20, h21, hlt', hO]
    exact h
end Go.Proofs.Qqz
