/- Contracts: the reference's pull, forces and balance. -/
import Derived.Test.YtanoekhdoelkbaaGreatStf
set_option linter.unusedSimpArgs false
set_option linter.unusedVariables false
namespace Go.Proofs.Qqz
open Go

theorem rv_of_fr {r : RV} (h : r.fr.isSome = true) : r = r.fr.rv := by
  rw [isSome_ratOf] at h
  obtain ⟨n, d, hg, h1, h2, h3, h4⟩ := ratOkB_some h
  unfold RV.fr
  rw [h4]
  obtain ⟨neg, mag, den⟩ := r
  simp only at h1 h2 h3
  simp only [Fr.rv, h1, h2, h3]

theorem fr_ok (r : RV) : r.fr.ok := ratOf_ok _ _ _

def frsOf (q : List RV) (i : Nat) : Fr := (q.getD i default).fr
theorem frsOf_eq (q : List RV) : (fun i => (q.map RV.fr).getD i default) = frsOf q := by
  funext i
  unfold frsOf
  by_cases h : i < q.length
  · rw [getD_elem _ _ (by simpa using h), getD_elem _ _ h]; simp
  · simp [List.getD, List.getElem?_eq_none (Nat.le_of_not_lt h)]
    rfl

def pullOnV (v : SV) (q : List RV) (joint : Int) : AV :=
  if densB v q = true ∧ (0 ≤ joint ∧ joint < v.joints.length) ∧ (pullF v (frsOf q) joint).1.isSome = true ∧ (pullF v (frsOf q) joint).2.isSome = true
  then .tup [sl ratRow [(pullF v (frsOf q) joint).1.rv, (pullF v (frsOf q) joint).2.rv], .lit (.bool true)] else .tup [.ps [], .lit (.bool false)]

theorem densB_facts {v : SV} {q : List RV} (h : densB v q = true) : SFacts v ∧ q.length = v.members.length ∧ ∀ r ∈ q, r.fr.isSome = true := by
  unfold densB at h
  simp only [Bool.and_eq_true, decide_eq_true_eq, List.all_eq_true] at h
  exact ⟨sfacts h.1.1, h.1.2, h.2⟩

set_option maxRecDepth 100000 in
set_option maxHeartbeats 1000000 in
theorem spullOn_ok (v : SV) (q : List RV) (joint : Int) (hs : ∀ j ∈ v.joints, j.name.size ≤ 1000000000) (hjn : v.joints.length ≤ 2000000) (hq : q.length ≤ 2000000) (hsh : ∀ r ∈ q, r.short) (e : Env) (σ : St) (K : KT) (h : K (pullOnV v q joint) e σ) :
    ACall Tryz.prog 12 [structV v, sl ratRow q, .lit (.int .i64 joint)] e σ K := by
  unfold pullOnV at h
  unfold structV
  refine ACall.pureW Tryz.func12 rfl Tryz.ntmps12 Tryz.results12 rfl rfl rfl ?_
  simp -implicitDefEqProofs (disch := (first | omega | (simp only [go_sem] <;> omega) | fail)) only [go_sem, simprocAttr]
  refine callF.plain (sfits_ok v q hs hq hsh _ _ _ ?_)
  cases hd : densB v q with
  | false =>
    rw [if_neg (by rw [hd]; simp)] at h
    simp -implicitDefEqProofs (disch := (first | omega | (simp only [go_sem] <;> omega) | fail)) only [go_sem, simprocAttr]
    exact h
  | true =>
    obtain ⟨F, hl, hv⟩ := densB_facts hd
    simp -implicitDefEqProofs (disch := (first | omega | (simp only [go_sem] <;> omega) | fail)) only [go_sem, simprocAttr, wrap_i64]
    refine callF.plain (sin_ok _ _ _ _ _ _ ?_)
    by_cases hj : ¬ (0 ≤ joint ∧ joint < v.joints.length)
    · have hjb : (decide (0 ≤ joint) && decide (joint ≤ (v.joints.length : Int) - 1)) = false := by simp; omega
      rw [if_neg (fun h => hj h.2.1)] at h
      rw [hjb]
      simp -implicitDefEqProofs (disch := (first | omega | (simp only [go_sem] <;> omega) | fail)) only [go_sem, simprocAttr]
      exact h
    have hj := Decidable.not_not.1 hj
    have hjb : (decide (0 ≤ joint) && decide (joint ≤ (v.joints.length : Int) - 1)) = true := by simp; omega
    rw [hjb]
    have hqi : ∀ i, i < v.members.length → (frsOf q i).ok := fun i _ => fr_ok _
    simp -implicitDefEqProofs (disch := (first | omega | (simp only [go_sem] <;> omega) | fail)) only [go_sem, simprocAttr]
    refine callF.plain (swhole_ok 0 (by omega) (by omega) _ _ _ ?_)
    unfold ratV
    simp -implicitDefEqProofs (disch := (first | omega | (simp only [go_sem] <;> omega) | fail)) only [go_sem, simprocAttr]
    refine callF.plain (swhole_ok 0 (by omega) (by omega) _ _ _ ?_)
    unfold ratV
    simp -implicitDefEqProofs (disch := (first | omega | (simp only [go_sem] <;> omega) | fail)) only [go_sem, simprocAttr]
    refine Sat.loopW (fun (t : Nat) e' σ' => ∃ i, t = v.members.length - i ∧ i ≤ v.members.length ∧ e' 1 = sl ratRow q ∧ e' 2 = .lit (.int .i64 joint) ∧ e' 3 = .ptr σ.n 0 0 ∧ e' 8 = .ptr (σ.n + 1) 0 0 ∧ e' 9 = .ptr (σ.n + 1 + 1) 0 0 ∧ e' 30 = sl memRow v.members ∧ e' 31 = .lit (.int .i64 v.members.length) ∧ e' 32 = .lit (.int .i64 (i : Nat)) ∧
      σ'.h σ.n = .deep 2 (structRows v) ∧ σ'.h (σ.n + 1) = .deep 3 [ratRow (pullTo v (frsOf q) joint i).1.rv] ∧ σ'.h (σ.n + 1 + 1) = .deep 3 [ratRow (pullTo v (frsOf q) joint i).2.rv] ∧ σ.n + 1 + 1 < σ'.n ∧ Old σ σ') (fun t => t) v.members.length rfl ?_ ?_
    · simp -implicitDefEqProofs (disch := (first | omega | (simp only [go_sem] <;> omega) | fail)) only [go_sem, simprocAttr]
      exact ⟨0, by omega, by omega, rfl, rfl, rfl, rfl, by omega⟩
    rintro t e1 σ1 ⟨i, rfl, hi, h1, h2, h3, h8, h9, h30, h31, h32, hB, hBx, hBy, hn, hO⟩
    have hB' := hB
    unfold structRows at hB'
    have hok := pullTo_ok F hqi joint i hi
    have hnm := F.nm
    by_cases hlt : i < v.members.length
    · have hlt' : (i : Int) < v.members.length := by omega
      have hlq : (i : Int) < q.length := by omega
      obtain ⟨m, hm⟩ : ∃ m, v.members.getD i default = m := ⟨_, rfl⟩
      have hsucc := pullTo_succ v (frsOf q) joint i
      have hvec := F.vec hlt
      unfold pullStep at hsucc
      rw [hm] at hsucc
      have hri : (q.getD i default).fr.isSome = true := by
        rw [getD_elem q i (by omega)]
        exact hv _ (List.getElem_mem _)
      have hre := rv_of_fr hri
      have hqk := fr_ok (q.getD i default)
      obtain ⟨x, hx⟩ : ∃ x, (q.getD i default).fr = x := ⟨_, rfl⟩
      have hfo : frsOf q i = x := hx
      rw [hx] at hre hqk
      rw [hfo] at hsucc
      obtain ⟨ax, hax⟩ : ∃ ax, (pullTo v (frsOf q) joint i).1 = ax := ⟨_, rfl⟩
      obtain ⟨ay, hay⟩ : ∃ ay, (pullTo v (frsOf q) joint i).2 = ay := ⟨_, rfl⟩
      rw [hax, hay] at hok hsucc
      rw [hax, ratRow_eq] at hBx
      rw [hay, ratRow_eq] at hBy
      simp -implicitDefEqProofs (disch := (first | omega | (simp only [go_sem] <;> omega) | fail)) only [go_sem, simprocAttr, h1, h2, h3, h8, h9, h30, h31, h32, hlt', hm, memRow_eq, hB']
      refine callF.plain (svector_ok v F i hlt _ _ _ ?_)
      have nvx : ∀ a : Int, 0 - a = -a := fun a => by omega
      by_cases ha : joint = m.a
      · rw [if_pos ha] at hsucc
        have ha' := eq_true ha
        simp -implicitDefEqProofs (disch := (first | omega | (simp only [go_sem] <;> omega) | fail)) only [go_sem, simprocAttr, h1, h2, h3, h8, h9, h30, h31, h32, hm, memRow_eq, ha']
        refine Sat.drawn0 [9] mixed (by kernel_rfl) ?_
        simp -implicitDefEqProofs (disch := (first | omega | (simp only [go_sem] <;> omega) | fail)) only [go_sem, simprocAttr, h1, h2, h3, h8, h9, h30, h31, h32, hlq, hre, ratRow_eq, hBx, hBy, wrap_i64, nvx]
        refine exQ.intro (swhole_ok (vecX v i) (by omega) (by omega) _ _ _ ⟨rfl, rfl⟩) ?_
        try simp -implicitDefEqProofs (disch := (first | omega | (simp only [go_sem] <;> omega) | fail)) only [go_sem, simprocAttr]
        refine exQ.intro (sratMul_ok x (wholeF (vecX v i)) hqk (whole_small (by omega)) _ _ _ ⟨rfl, rfl⟩) ?_
        try simp -implicitDefEqProofs (disch := (first | omega | (simp only [go_sem] <;> omega) | fail)) only [go_sem, simprocAttr]
        refine exQ.intro (sratAdd_ok ax (mulF x (wholeF (vecX v i))) hok.1 (mulF_ok hqk (whole_small (by omega))) _ _ _ ⟨rfl, rfl⟩) ?_
        unfold ratV
        simp -implicitDefEqProofs (disch := (first | omega | (simp only [go_sem] <;> omega) | fail)) only [go_sem, simprocAttr, h1, h2, h3, h8, h9, h30, h31, h32, hlq, hre, ratRow_eq, hBx, hBy, wrap_i64, nvx]
        refine Sat.drawn0 [9] mixed (by kernel_rfl) ?_
        simp -implicitDefEqProofs (disch := (first | omega | (simp only [go_sem] <;> omega) | fail)) only [go_sem, simprocAttr, h1, h2, h3, h8, h9, h30, h31, h32, hlq, hre, ratRow_eq, hBx, hBy, wrap_i64, nvx]
        refine exQ.intro (swhole_ok (vecY v i) (by omega) (by omega) _ _ _ ⟨rfl, rfl⟩) ?_
        try simp -implicitDefEqProofs (disch := (first | omega | (simp only [go_sem] <;> omega) | fail)) only [go_sem, simprocAttr]
        refine exQ.intro (sratMul_ok x (wholeF (vecY v i)) hqk (whole_small (by omega)) _ _ _ ⟨rfl, rfl⟩) ?_
        try simp -implicitDefEqProofs (disch := (first | omega | (simp only [go_sem] <;> omega) | fail)) only [go_sem, simprocAttr]
        refine exQ.intro (sratAdd_ok ay (mulF x (wholeF (vecY v i))) hok.2 (mulF_ok hqk (whole_small (by omega))) _ _ _ ⟨rfl, rfl⟩) ?_
        unfold ratV
        simp -implicitDefEqProofs (disch := (first | omega | (simp only [go_sem] <;> omega) | fail)) only [go_sem, simprocAttr, h1, h2, h3, h8, h9, h30, h31, h32, hlq, hre, ratRow_eq, hBx, hBy, wrap_i64]
        refine ⟨v.members.length - (i + 1), by omega, i + 1, rfl, by omega, rfl, by simp -implicitDefEqProofs (disch := (first | omega | (simp only [go_sem] <;> omega) | fail)) only [go_sem, simprocAttr, hB], ?_, ?_, by omega, by simp -implicitDefEqProofs (disch := (first | omega | (simp only [go_sem] <;> omega) | fail)) only [go_sem, simprocAttr, hO]⟩
        · rw [hsucc]
        · rw [hsucc]
      · rw [if_neg ha] at hsucc
        have ha' := eq_false ha
        by_cases hb : joint = m.b
        · rw [if_pos hb] at hsucc
          have hb' := eq_true hb
          simp -implicitDefEqProofs (disch := (first | omega | (simp only [go_sem] <;> omega) | fail)) only [go_sem, simprocAttr, h1, h2, h3, h8, h9, h30, h31, h32, hm, memRow_eq, ha', hb']
          refine Sat.drawn0 [10] mixed (by kernel_rfl) ?_
          simp -implicitDefEqProofs (disch := (first | omega | (simp only [go_sem] <;> omega) | fail)) only [go_sem, simprocAttr, h1, h2, h3, h8, h9, h30, h31, h32, hlq, hre, ratRow_eq, hBx, hBy, wrap_i64, nvx]
          refine exQ.intro (swhole_ok (-vecX v i) (by omega) (by omega) _ _ _ ⟨rfl, rfl⟩) ?_
          try simp -implicitDefEqProofs (disch := (first | omega | (simp only [go_sem] <;> omega) | fail)) only [go_sem, simprocAttr]
          refine exQ.intro (sratMul_ok x (wholeF (-vecX v i)) hqk (whole_small (by omega)) _ _ _ ⟨rfl, rfl⟩) ?_
          try simp -implicitDefEqProofs (disch := (first | omega | (simp only [go_sem] <;> omega) | fail)) only [go_sem, simprocAttr]
          refine exQ.intro (sratAdd_ok ax (mulF x (wholeF (-vecX v i))) hok.1 (mulF_ok hqk (whole_small (by omega))) _ _ _ ⟨rfl, rfl⟩) ?_
          unfold ratV
          simp -implicitDefEqProofs (disch := (first | omega | (simp only [go_sem] <;> omega) | fail)) only [go_sem, simprocAttr, h1, h2, h3, h8, h9, h30, h31, h32, hlq, hre, ratRow_eq, hBx, hBy, wrap_i64, nvx]
          refine Sat.drawn0 [10] mixed (by kernel_rfl) ?_
          simp -implicitDefEqProofs (disch := (first | omega | (simp only [go_sem] <;> omega) | fail)) only [go_sem, simprocAttr, h1, h2, h3, h8, h9, h30, h31, h32, hlq, hre, ratRow_eq, hBx, hBy, wrap_i64, nvx]
          refine exQ.intro (swhole_ok (-vecY v i) (by omega) (by omega) _ _ _ ⟨rfl, rfl⟩) ?_
          try simp -implicitDefEqProofs (disch := (first | omega | (simp only [go_sem] <;> omega) | fail)) only [go_sem, simprocAttr]
          refine exQ.intro (sratMul_ok x (wholeF (-vecY v i)) hqk (whole_small (by omega)) _ _ _ ⟨rfl, rfl⟩) ?_
          try simp -implicitDefEqProofs (disch := (first | omega | (simp only [go_sem] <;> omega) | fail)) only [go_sem, simprocAttr]
          refine exQ.intro (sratAdd_ok ay (mulF x (wholeF (-vecY v i))) hok.2 (mulF_ok hqk (whole_small (by omega))) _ _ _ ⟨rfl, rfl⟩) ?_
          unfold ratV
          simp -implicitDefEqProofs (disch := (first | omega | (simp only [go_sem] <;> omega) | fail)) only [go_sem, simprocAttr, h1, h2, h3, h8, h9, h30, h31, h32, hlq, hre, ratRow_eq, hBx, hBy, wrap_i64]
          refine ⟨v.members.length - (i + 1), by omega, i + 1, rfl, by omega, rfl, by simp -implicitDefEqProofs (disch := (first | omega | (simp only [go_sem] <;> omega) | fail)) only [go_sem, simprocAttr, hB], ?_, ?_, by omega, by simp -implicitDefEqProofs (disch := (first | omega | (simp only [go_sem] <;> omega) | fail)) only [go_sem, simprocAttr, hO]⟩
          · rw [hsucc]
          · rw [hsucc]
        · rw [if_neg hb] at hsucc
          have hb' := eq_false hb
          simp -implicitDefEqProofs (disch := (first | omega | (simp only [go_sem] <;> omega) | fail)) only [go_sem, simprocAttr, h1, h2, h3, h8, h9, h30, h31, h32, hm, memRow_eq, ha', hb', wrap_i64]
          refine ⟨v.members.length - (i + 1), by omega, i + 1, rfl, by omega, rfl, by simp -implicitDefEqProofs (disch := (first | omega | (simp only [go_sem] <;> omega) | fail)) only [go_sem, simprocAttr, hB], ?_, ?_, by omega, by simp -implicitDefEqProofs (disch := (first | omega | (simp only [go_sem] <;> omega) | fail)) only [go_sem, simprocAttr, hO]⟩
          · rw [hsucc, hax, ratRow_eq]; simp -implicitDefEqProofs (disch := (first | omega | (simp only [go_sem] <;> omega) | fail)) only [go_sem, simprocAttr, hBx]
          · rw [hsucc, hay, ratRow_eq]; simp -implicitDefEqProofs (disch := (first | omega | (simp only [go_sem] <;> omega) | fail)) only [go_sem, simprocAttr, hBy]
    · have hlt' : ¬ (i : Int) < v.members.length := by omega
      have hie : i = v.members.length := by omega
      subst hie
      rw [ratRow_eq] at hBx hBy
      have hpf : pullTo v (frsOf q) joint v.members.length = pullF v (frsOf q) joint := rfl
      rw [hpf] at hBx hBy hok
      obtain ⟨ax, hax⟩ : ∃ ax, (pullF v (frsOf q) joint).1 = ax := ⟨_, rfl⟩
      obtain ⟨ay, hay⟩ : ∃ ay, (pullF v (frsOf q) joint).2 = ay := ⟨_, rfl⟩
      rw [hax] at hBx
      rw [hay] at hBy
      rw [hax, hay] at h hok
      have lx := rv_lens hok.1
      have ly := rv_lens hok.2
      simp -implicitDefEqProofs (disch := (first | omega | (simp only [go_sem] <;> omega) | fail)) only [go_sem, simprocAttr, h1, h2, h3, h8, h9, h30, h31, h32, hlt', hBx, hBy]
      refine callF.plain (sratOk_ok ax.rv (by omega) (by omega) _ _ _ ?_)
      rw [okB_fr hok.1]
      cases hsx : ax.isSome with
      | false =>
        rw [if_neg (fun h => by rw [hsx] at h; exact absurd h.2.2.1 (by simp))] at h
        simp -implicitDefEqProofs (disch := (first | omega | (simp only [go_sem] <;> omega) | fail)) only [go_sem, simprocAttr, hO]
        exact h
      | true =>
        simp -implicitDefEqProofs (disch := (first | omega | (simp only [go_sem] <;> omega) | fail)) only [go_sem, simprocAttr, h1, h2, h3, h8, h9, h30, h31, h32, hBx, hBy]
        refine callF.plain (sratOk_ok ay.rv (by omega) (by omega) _ _ _ ?_)
        rw [okB_fr hok.2]
        cases hsy : ay.isSome with
        | false =>
          rw [if_neg (fun h => by rw [hsy] at h; exact absurd h.2.2.2 (by simp))] at h
          simp -implicitDefEqProofs (disch := (first | omega | (simp only [go_sem] <;> omega) | fail)) only [go_sem, simprocAttr, hO]
          exact h
        | true =>
          rw [if_pos ⟨hd, hj, hsx, hsy⟩] at h
          simp -implicitDefEqProofs (disch := (first | omega | (simp only [go_sem] <;> omega) | fail)) only [go_sem, simprocAttr, h1, h2, h3, h8, h9, h30, h31, h32, hBx, hBy, hO]
          exact h
end Go.Proofs.Qqz
