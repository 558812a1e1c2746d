/- Contracts: reactions and stretches, handed back in blocks of the caller's own. -/
import Derived.Test.YtanoekhdoelkbaaGreatKh
import Derived.Test.YtanoekhdoelkbaaGreatStj
set_option linter.unusedSimpArgs false
set_option linter.unusedVariables false
namespace Go.Proofs.Qqz
open Go

def reactO (v : SV) (l : List Int) (q : List RV) (joint : Int) : Option (List RV) :=
  if densB v q = true ∧ loadOkB v l = true ∧ (0 ≤ joint ∧ joint < v.joints.length) ∧ fixedAt v joint.toNat = true ∧ (sumX v q l joint.toNat).isSome = true ∧ (sumY v q l joint.toNat).isSome = true
  then some [(negF (sumX v q l joint.toNat)).rv, (negF (sumY v q l joint.toNat)).rv] else none

@[go_sem] theorem frz_frA (m : Nat) (σ : St) (f : Nat) (top : Bool) (x : Fr) : frz m σ (f + 1) top (frA x) = frA x := by
  match x with
  | none => rfl
  | some (n, d) => rfl
theorem sums_ok {v : SV} (F : SFacts v) {l : List Int} (hlo : loadOkB v l = true) (q : List RV) (j : Nat) : (sumX v q l j).ok ∧ (sumY v q l j).ok := by
  obtain ⟨hll, hlb⟩ := loadOkB_facts hlo
  have hp := pullF_ok F q (j : Int)
  have hb1 := hlb (2 * j)
  have hb2 := hlb (2 * j + 1)
  exact ⟨addF_ok hp.1 (whole_small (by omega)), addF_ok hp.2 (whole_small (by omega))⟩
theorem negF_some {x : Fr} : (negF x).isSome = x.isSome := by
  match x with
  | none => rfl
  | some (a, b) => rfl
theorem reactO_small (v : SV) (l : List Int) (q : List RV) (joint : Int) : smallB (resQ (reactO v l q joint)) := by
  unfold reactO
  split
  · rename_i hc
    obtain ⟨F, _, _⟩ := densB_facts hc.1
    have hp := sums_ok F hc.2.1 q joint.toNat
    refine ⟨by simp [resQ], fun x hx => ?_⟩
    simp [resQ] at hx
    rcases hx with rfl | rfl
    · exact ratRow_pre (negF_ok hp.1)
    · exact ratRow_pre (negF_ok hp.2)
  · exact ⟨by simp [resQ], by simp [resQ]⟩

set_option maxRecDepth 100000 in
set_option maxHeartbeats 1000000 in
theorem react_own (v : SV) (l : List Int) (q : List RV) (joint : Int) (hs : ∀ j ∈ v.joints, j.name.size ≤ 1000000000) (hjn : v.joints.length ≤ 2000000) (hq : q.length ≤ 2000000) (hl : l.length ≤ 1000000000) (e : Env) (σ : St) (K : KT)
    (h0 : ∀ σ' x, Old σ σ' → GB σ' σ.n σ'.n (reactO v l q joint) x → K (.tup [x, .lit (.bool (reactO v l q joint).isSome)]) e σ') :
    ACall Tryz.prog 32 [structV v, ints l, sl ratRow q, .lit (.int .i64 joint)] e σ K := by
  have h : ∀ l', reactO v l q joint = some l' → ∀ σ' k T, Old σ σ' → T.map QT.r = l' → QB σ' σ.n σ'.n k T → K (.tup [.os k 0 l'.length, .lit (.bool true)]) e σ' := fun l' hl σ' k T h1 h2 h3 => by
    rw [hl] at h0
    exact h0 σ' _ h1 ⟨k, T, rfl, h2, h3⟩
  have h' : reactO v l q joint = none → ∀ σ', Old σ σ' → K (.tup [.lit (.slice none 0 0), .lit (.bool false)]) e σ' := fun hn σ' h1 => by
    rw [hn] at h0
    exact h0 σ' _ h1 rfl
  clear h0
  unfold structV
  refine ACall.bareW Tryz.func32 rfl Tryz.ntmps32 Tryz.results32 rfl rfl rfl ?_
  simp -implicitDefEqProofs (disch := (first | omega | (simp only [go_sem] <;> omega) | fail)) only [go_sem, Nat.reduceEqDiff, ↓reduceIte, Nat.reduceAdd, Nat.reduceLT, Nat.reduceLeDiff, Nat.reduceSub, Nat.reduceMul, Int.reduceLT, Int.reduceLE, Int.reduceToNat, Int.reduceNeg, Int.reduceEq, Int.reduceAdd, Int.reduceSub, Int.reduceMul, reduceCtorEq]
  refine callF.plain ?_
  refine ACall.eq_args (l' := [.ptr σ.n 0 0, sl ratRow q]) (by simp -implicitDefEqProofs (disch := (first | omega | (simp only [go_sem] <;> omega) | fail)) only [go_sem, Nat.reduceEqDiff, ↓reduceIte, Nat.reduceAdd, Nat.reduceLT, Nat.reduceLeDiff, Nat.reduceSub, Nat.reduceMul, Int.reduceLT, Int.reduceLE, Int.reduceToNat, Int.reduceNeg, Int.reduceEq, Int.reduceAdd, Int.reduceSub, Int.reduceMul, reduceCtorEq]) ?_
  refine densities_ok v q hs hq σ.n _ _ (by simp -implicitDefEqProofs (disch := (first | omega | (simp only [go_sem] <;> omega) | fail)) only [go_sem, Nat.reduceEqDiff, ↓reduceIte, Nat.reduceAdd, Nat.reduceLT, Nat.reduceLeDiff, Nat.reduceSub, Nat.reduceMul, Int.reduceLT, Int.reduceLE, Int.reduceToNat, Int.reduceNeg, Int.reduceEq, Int.reduceAdd, Int.reduceSub, Int.reduceMul, reduceCtorEq]; omega) (by simp -implicitDefEqProofs (disch := (first | omega | (simp only [go_sem] <;> omega) | fail)) only [go_sem, Nat.reduceEqDiff, ↓reduceIte, Nat.reduceAdd, Nat.reduceLT, Nat.reduceLeDiff, Nat.reduceSub, Nat.reduceMul, Int.reduceLT, Int.reduceLE, Int.reduceToNat, Int.reduceNeg, Int.reduceEq, Int.reduceAdd, Int.reduceSub, Int.reduceMul, reduceCtorEq]; rfl) _ ?_
  unfold reactO at h h'
  cases hd : densB v q with
  | false =>
    have h' := h' (if_neg (by rw [hd]; simp))
    simp -implicitDefEqProofs (disch := (first | omega | (simp only [go_sem] <;> omega) | fail)) only [go_sem, Nat.reduceEqDiff, ↓reduceIte, Nat.reduceAdd, Nat.reduceLT, Nat.reduceLeDiff, Nat.reduceSub, Nat.reduceMul, Int.reduceLT, Int.reduceLE, Int.reduceToNat, Int.reduceNeg, Int.reduceEq, Int.reduceAdd, Int.reduceSub, Int.reduceMul, reduceCtorEq]
    exact h' _ (by simp -implicitDefEqProofs (disch := (first | omega | (simp only [go_sem] <;> omega) | fail)) only [go_sem, Nat.reduceEqDiff, ↓reduceIte, Nat.reduceAdd, Nat.reduceLT, Nat.reduceLeDiff, Nat.reduceSub, Nat.reduceMul, Int.reduceLT, Int.reduceLE, Int.reduceToNat, Int.reduceNeg, Int.reduceEq, Int.reduceAdd, Int.reduceSub, Int.reduceMul, reduceCtorEq])
  | true =>
    obtain ⟨F, hlq, hv⟩ := densB_facts hd
    simp -implicitDefEqProofs (disch := (first | omega | (simp only [go_sem] <;> omega) | fail)) only [go_sem, Nat.reduceEqDiff, ↓reduceIte, Nat.reduceAdd, Nat.reduceLT, Nat.reduceLeDiff, Nat.reduceSub, Nat.reduceMul, Int.reduceLT, Int.reduceLE, Int.reduceToNat, Int.reduceNeg, Int.reduceEq, Int.reduceAdd, Int.reduceSub, Int.reduceMul, reduceCtorEq]
    refine callF.plain ?_
    refine ACall.eq_args (l' := [.ptr σ.n 0 0, ints l]) (by simp -implicitDefEqProofs (disch := (first | omega | (simp only [go_sem] <;> omega) | fail)) only [go_sem, Nat.reduceEqDiff, ↓reduceIte, Nat.reduceAdd, Nat.reduceLT, Nat.reduceLeDiff, Nat.reduceSub, Nat.reduceMul, Int.reduceLT, Int.reduceLE, Int.reduceToNat, Int.reduceNeg, Int.reduceEq, Int.reduceAdd, Int.reduceSub, Int.reduceMul, reduceCtorEq]) ?_
    refine fitsLoad_ok v l (by omega) hl σ.n _ _ (by simp -implicitDefEqProofs (disch := (first | omega | (simp only [go_sem] <;> omega) | fail)) only [go_sem, Nat.reduceEqDiff, ↓reduceIte, Nat.reduceAdd, Nat.reduceLT, Nat.reduceLeDiff, Nat.reduceSub, Nat.reduceMul, Int.reduceLT, Int.reduceLE, Int.reduceToNat, Int.reduceNeg, Int.reduceEq, Int.reduceAdd, Int.reduceSub, Int.reduceMul, reduceCtorEq]; omega) (by simp -implicitDefEqProofs (disch := (first | omega | (simp only [go_sem] <;> omega) | fail)) only [go_sem, Nat.reduceEqDiff, ↓reduceIte, Nat.reduceAdd, Nat.reduceLT, Nat.reduceLeDiff, Nat.reduceSub, Nat.reduceMul, Int.reduceLT, Int.reduceLE, Int.reduceToNat, Int.reduceNeg, Int.reduceEq, Int.reduceAdd, Int.reduceSub, Int.reduceMul, reduceCtorEq]; rfl) _ ?_
    cases hlo : loadOkB v l with
    | false =>
      have h' := h' (if_neg (by rw [hlo]; simp))
      simp -implicitDefEqProofs (disch := (first | omega | (simp only [go_sem] <;> omega) | fail)) only [go_sem, Nat.reduceEqDiff, ↓reduceIte, Nat.reduceAdd, Nat.reduceLT, Nat.reduceLeDiff, Nat.reduceSub, Nat.reduceMul, Int.reduceLT, Int.reduceLE, Int.reduceToNat, Int.reduceNeg, Int.reduceEq, Int.reduceAdd, Int.reduceSub, Int.reduceMul, reduceCtorEq]
      exact h' _ (by simp -implicitDefEqProofs (disch := (first | omega | (simp only [go_sem] <;> omega) | fail)) only [go_sem, Nat.reduceEqDiff, ↓reduceIte, Nat.reduceAdd, Nat.reduceLT, Nat.reduceLeDiff, Nat.reduceSub, Nat.reduceMul, Int.reduceLT, Int.reduceLE, Int.reduceToNat, Int.reduceNeg, Int.reduceEq, Int.reduceAdd, Int.reduceSub, Int.reduceMul, reduceCtorEq])
    | true =>
      by_cases h1 : joint < 0
      · have h' := h' (if_neg (by omega))
        simp -implicitDefEqProofs (disch := (first | omega | (simp only [go_sem] <;> omega) | fail)) only [go_sem, Nat.reduceEqDiff, ↓reduceIte, Nat.reduceAdd, Nat.reduceLT, Nat.reduceLeDiff, Nat.reduceSub, Nat.reduceMul, Int.reduceLT, Int.reduceLE, Int.reduceToNat, Int.reduceNeg, Int.reduceEq, Int.reduceAdd, Int.reduceSub, Int.reduceMul, reduceCtorEq, h1]
        exact h' _ (by simp -implicitDefEqProofs (disch := (first | omega | (simp only [go_sem] <;> omega) | fail)) only [go_sem, Nat.reduceEqDiff, ↓reduceIte, Nat.reduceAdd, Nat.reduceLT, Nat.reduceLeDiff, Nat.reduceSub, Nat.reduceMul, Int.reduceLT, Int.reduceLE, Int.reduceToNat, Int.reduceNeg, Int.reduceEq, Int.reduceAdd, Int.reduceSub, Int.reduceMul, reduceCtorEq])
      by_cases h2 : (v.joints.length : Int) ≤ joint
      · have h' := h' (if_neg (by omega))
        simp -implicitDefEqProofs (disch := (first | omega | (simp only [go_sem] <;> omega) | fail)) only [go_sem, Nat.reduceEqDiff, ↓reduceIte, Nat.reduceAdd, Nat.reduceLT, Nat.reduceLeDiff, Nat.reduceSub, Nat.reduceMul, Int.reduceLT, Int.reduceLE, Int.reduceToNat, Int.reduceNeg, Int.reduceEq, Int.reduceAdd, Int.reduceSub, Int.reduceMul, reduceCtorEq, h1, h2]
        exact h' _ (by simp -implicitDefEqProofs (disch := (first | omega | (simp only [go_sem] <;> omega) | fail)) only [go_sem, Nat.reduceEqDiff, ↓reduceIte, Nat.reduceAdd, Nat.reduceLT, Nat.reduceLeDiff, Nat.reduceSub, Nat.reduceMul, Int.reduceLT, Int.reduceLE, Int.reduceToNat, Int.reduceNeg, Int.reduceEq, Int.reduceAdd, Int.reduceSub, Int.reduceMul, reduceCtorEq])
      obtain ⟨j, rfl⟩ : ∃ j : Nat, joint = j := ⟨joint.toNat, by omega⟩
      rw [Int.toNat_natCast] at h h'
      have hj : j < v.joints.length := by omega
      have hj' : (j : Int) < v.joints.length := by omega
      have h3 : ¬ (j : Int) < 0 := by omega
      obtain ⟨jv, hjv⟩ : ∃ jv, v.joints.getD j default = jv := ⟨_, rfl⟩
      have hfx : fixedAt v j = jv.fixed := by unfold fixedAt; rw [hjv]
      cases hf : jv.fixed with
      | false =>
        have h' := h' (if_neg (by rw [hfx, hf]; simp))
        simp -implicitDefEqProofs (disch := (first | omega | (simp only [go_sem] <;> omega) | fail)) only [go_sem, Nat.reduceEqDiff, ↓reduceIte, Nat.reduceAdd, Nat.reduceLT, Nat.reduceLeDiff, Nat.reduceSub, Nat.reduceMul, Int.reduceLT, Int.reduceLE, Int.reduceToNat, Int.reduceNeg, Int.reduceEq, Int.reduceAdd, Int.reduceSub, Int.reduceMul, reduceCtorEq, h2, h3, hj', hjv, jointRow_eq, hf]
        exact h' _ (by simp -implicitDefEqProofs (disch := (first | omega | (simp only [go_sem] <;> omega) | fail)) only [go_sem, Nat.reduceEqDiff, ↓reduceIte, Nat.reduceAdd, Nat.reduceLT, Nat.reduceLeDiff, Nat.reduceSub, Nat.reduceMul, Int.reduceLT, Int.reduceLE, Int.reduceToNat, Int.reduceNeg, Int.reduceEq, Int.reduceAdd, Int.reduceSub, Int.reduceMul, reduceCtorEq])
      | true =>
        obtain ⟨hll, hlb⟩ := loadOkB_facts hlo
        have hnj := F.nj
        have i1 : (2 * (j : Int)).toNat = 2 * j := by omega
        have i2 : (2 * (j : Int) + 1).toNat = 2 * j + 1 := by omega
        have hb1 := hlb (2 * j)
        have hb2 := hlb (2 * j + 1)
        have hp := pullF_ok F q (j : Int)
        have hso := sums_ok F hlo q j
        have hsx : addF (pullF v (frsOf q) (j : Int)).1 (wholeF (l.getD (2 * j) 0)) = sumX v q l j := rfl
        have hsy : addF (pullF v (frsOf q) (j : Int)).2 (wholeF (l.getD (2 * j + 1) 0)) = sumY v q l j := rfl
        simp -implicitDefEqProofs (disch := (first | omega | (simp only [go_sem] <;> omega) | fail)) only [go_sem, Nat.reduceEqDiff, ↓reduceIte, Nat.reduceAdd, Nat.reduceLT, Nat.reduceLeDiff, Nat.reduceSub, Nat.reduceMul, Int.reduceLT, Int.reduceLE, Int.reduceToNat, Int.reduceNeg, Int.reduceEq, Int.reduceAdd, Int.reduceSub, Int.reduceMul, reduceCtorEq, h2, h3, hj', hjv, jointRow_eq, hf]
        refine callF.plain ?_
        refine ACall.eq_args (l' := [.ptr σ.n 0 0, sl frRow (q.map RV.fr), .lit (.int .i64 j)]) (by simp -implicitDefEqProofs (disch := (first | omega | (simp only [go_sem] <;> omega) | fail)) only [go_sem, Nat.reduceEqDiff, ↓reduceIte, Nat.reduceAdd, Nat.reduceLT, Nat.reduceLeDiff, Nat.reduceSub, Nat.reduceMul, Int.reduceLT, Int.reduceLE, Int.reduceToNat, Int.reduceNeg, Int.reduceEq, Int.reduceAdd, Int.reduceSub, Int.reduceMul, reduceCtorEq]) ?_
        refine pull_ok v F (q.map RV.fr) (by simpa using hlq) (fun x hx => by obtain ⟨r, _, rfl⟩ := List.mem_map.1 hx; exact fr_ok r) j σ.n _ _ (by first | omega | (simp -implicitDefEqProofs (disch := (first | omega | (simp only [go_sem] <;> omega) | fail)) only [go_sem, Nat.reduceEqDiff, ↓reduceIte, Nat.reduceAdd, Nat.reduceLT, Nat.reduceLeDiff, Nat.reduceSub, Nat.reduceMul, Int.reduceLT, Int.reduceLE, Int.reduceToNat, Int.reduceNeg, Int.reduceEq, Int.reduceAdd, Int.reduceSub, Int.reduceMul, reduceCtorEq]; omega)) (by simp -implicitDefEqProofs (disch := (first | omega | (simp only [go_sem] <;> omega) | fail)) only [go_sem, Nat.reduceEqDiff, ↓reduceIte, Nat.reduceAdd, Nat.reduceLT, Nat.reduceLeDiff, Nat.reduceSub, Nat.reduceMul, Int.reduceLT, Int.reduceLE, Int.reduceToNat, Int.reduceNeg, Int.reduceEq, Int.reduceAdd, Int.reduceSub, Int.reduceMul, reduceCtorEq]; rfl) _ ?_
        rw [frsOf_eq]
        obtain ⟨px, hpx⟩ : ∃ px, (pullF v (frsOf q) (j : Int)).1 = px := ⟨_, rfl⟩
        obtain ⟨py, hpy⟩ : ∃ py, (pullF v (frsOf q) (j : Int)).2 = py := ⟨_, rfl⟩
        rw [hpx] at hsx
        rw [hpy] at hsy
        rw [hpx, hpy] at hp
        rw [hpx, hpy]
        obtain ⟨sx, hsx'⟩ : ∃ sx, sumX v q l j = sx := ⟨_, rfl⟩
        obtain ⟨sy, hsy'⟩ : ∃ sy, sumY v q l j = sy := ⟨_, rfl⟩
        rw [hsx'] at hsx h h'
        rw [hsy'] at hsy h h'
        rw [hsx', hsy'] at hso
        simp -implicitDefEqProofs (disch := (first | omega | (simp only [go_sem] <;> omega) | fail)) only [go_sem, Nat.reduceEqDiff, ↓reduceIte, Nat.reduceAdd, Nat.reduceLT, Nat.reduceLeDiff, Nat.reduceSub, Nat.reduceMul, Int.reduceLT, Int.reduceLE, Int.reduceToNat, Int.reduceNeg, Int.reduceEq, Int.reduceAdd, Int.reduceSub, Int.reduceMul, reduceCtorEq]
        refine Sat.drawnT [19, 20, 21, 22, 23, 24] (.one 19 (.one 20 (.two 21 (.one 22 (.one 23 (.one 24 .leaf))) 22 (.one 21 (.one 23 (.one 24 .leaf)))))) mixed (by kernel_rfl) ?_
        simp -implicitDefEqProofs (disch := (first | omega | (simp only [go_sem] <;> omega) | fail)) only [go_sem, Nat.reduceEqDiff, ↓reduceIte, Nat.reduceAdd, Nat.reduceLT, Nat.reduceLeDiff, Nat.reduceSub, Nat.reduceMul, Int.reduceLT, Int.reduceLE, Int.reduceToNat, Int.reduceNeg, Int.reduceEq, Int.reduceAdd, Int.reduceSub, Int.reduceMul, reduceCtorEq, i1, i2, wrap_i64, getD_int]
        refine exQ.intro (fun n' hh => whole_ok (l.getD (2 * j) 0) (by omega) (by omega) _ _ _ ⟨rfl, rfl⟩) ?_
        try simp -implicitDefEqProofs (disch := (first | omega | (simp only [go_sem] <;> omega) | fail)) only [go_sem, Nat.reduceEqDiff, ↓reduceIte, Nat.reduceAdd, Nat.reduceLT, Nat.reduceLeDiff, Nat.reduceSub, Nat.reduceMul, Int.reduceLT, Int.reduceLE, Int.reduceToNat, Int.reduceNeg, Int.reduceEq, Int.reduceAdd, Int.reduceSub, Int.reduceMul, reduceCtorEq]
        refine exQ.intro (fun n' hh => add_ok px (wholeF (l.getD (2 * j) 0)) hp.1 (whole_small (by omega)) _ _ _ ⟨rfl, rfl⟩) ?_
        rw [hsx]
        try simp -implicitDefEqProofs (disch := (first | omega | (simp only [go_sem] <;> omega) | fail)) only [go_sem, Nat.reduceEqDiff, ↓reduceIte, Nat.reduceAdd, Nat.reduceLT, Nat.reduceLeDiff, Nat.reduceSub, Nat.reduceMul, Int.reduceLT, Int.reduceLE, Int.reduceToNat, Int.reduceNeg, Int.reduceEq, Int.reduceAdd, Int.reduceSub, Int.reduceMul, reduceCtorEq]
        refine exQ.intro (fun n' hh => neg_ok sx _ _ _ ⟨rfl, rfl⟩) ?_
        simp -implicitDefEqProofs (disch := (first | omega | (simp only [go_sem] <;> omega) | fail)) only [go_sem, Nat.reduceEqDiff, ↓reduceIte, Nat.reduceAdd, Nat.reduceLT, Nat.reduceLeDiff, Nat.reduceSub, Nat.reduceMul, Int.reduceLT, Int.reduceLE, Int.reduceToNat, Int.reduceNeg, Int.reduceEq, Int.reduceAdd, Int.reduceSub, Int.reduceMul, reduceCtorEq, i1, i2, wrap_i64, getD_int]
        refine exQ.intro (fun n' hh => whole_ok (l.getD (2 * j + 1) 0) (by omega) (by omega) _ _ _ ⟨rfl, rfl⟩) ?_
        try simp -implicitDefEqProofs (disch := (first | omega | (simp only [go_sem] <;> omega) | fail)) only [go_sem, Nat.reduceEqDiff, ↓reduceIte, Nat.reduceAdd, Nat.reduceLT, Nat.reduceLeDiff, Nat.reduceSub, Nat.reduceMul, Int.reduceLT, Int.reduceLE, Int.reduceToNat, Int.reduceNeg, Int.reduceEq, Int.reduceAdd, Int.reduceSub, Int.reduceMul, reduceCtorEq]
        refine exQ.intro (fun n' hh => add_ok py (wholeF (l.getD (2 * j + 1) 0)) hp.2 (whole_small (by omega)) _ _ _ ⟨rfl, rfl⟩) ?_
        rw [hsy]
        try simp -implicitDefEqProofs (disch := (first | omega | (simp only [go_sem] <;> omega) | fail)) only [go_sem, Nat.reduceEqDiff, ↓reduceIte, Nat.reduceAdd, Nat.reduceLT, Nat.reduceLeDiff, Nat.reduceSub, Nat.reduceMul, Int.reduceLT, Int.reduceLE, Int.reduceToNat, Int.reduceNeg, Int.reduceEq, Int.reduceAdd, Int.reduceSub, Int.reduceMul, reduceCtorEq]
        refine exQ.intro (fun n' hh => neg_ok sy _ _ _ ⟨rfl, rfl⟩) ?_
        simp -implicitDefEqProofs (disch := (first | omega | (simp only [go_sem] <;> omega) | fail)) only [go_sem, Nat.reduceEqDiff, ↓reduceIte, Nat.reduceAdd, Nat.reduceLT, Nat.reduceLeDiff, Nat.reduceSub, Nat.reduceMul, Int.reduceLT, Int.reduceLE, Int.reduceToNat, Int.reduceNeg, Int.reduceEq, Int.reduceAdd, Int.reduceSub, Int.reduceMul, reduceCtorEq]
        refine ACall.lend ?_
        refine ACall.eq_args (l' := [sl frRow [negF sx, negF sy]]) (by
          show [frz 0 _ (5 + 1) true (.os (σ.n + 1) 0 [negF sx, negF sy].length)] = _
          rw [frz_bl (g := frRow) (wd := 1) (l := [negF sx, negF sy]) (by simp -implicitDefEqProofs (disch := (first | omega | (simp only [go_sem] <;> omega) | fail)) only [go_sem, Nat.reduceEqDiff, ↓reduceIte, Nat.reduceAdd, Nat.reduceLT, Nat.reduceLeDiff, Nat.reduceSub, Nat.reduceMul, Int.reduceLT, Int.reduceLE, Int.reduceToNat, Int.reduceNeg, Int.reduceEq, Int.reduceAdd, Int.reduceSub, Int.reduceMul, reduceCtorEq]; rfl)]) ?_
        refine stores_own [negF sx, negF sy] (by intro x hx; simp at hx; rcases hx with rfl | rfl; exact negF_ok hso.1; exact negF_ok hso.2) (by simp) _ _ _ (fun hall σ1 k T hO hT hQ => ?_) (fun hall σ1 hO => ?_)
        · refine ⟨.tup (by intro y hy; simp at hy; rcases hy with rfl | rfl; exact .os; exact .lit), fun σ2 g1 g2 g3 => ?_⟩
          have hQ2 := hQ.congr (σ' := σ2) (by rw [g2]; exact Nat.le_refl _) (fun k hk _ hp => g3 k hk hp)
          rw [← g2] at hQ2
          have h := h [(negF sx).rv, (negF sy).rv] (by rw [if_pos]; simp [negF_some] at hall; exact ⟨hd, hlo, ⟨by omega, hj'⟩, by rw [hfx, hf], hall⟩)
          have oo : Old (σ.new (.deep 2 [[sl jointRow v.joints, sl memRow v.members]])) σ2 := Old.trans (by simp -implicitDefEqProofs (disch := (first | omega | (simp only [go_sem] <;> omega) | fail)) only [go_sem, Nat.reduceEqDiff, ↓reduceIte, Nat.reduceAdd, Nat.reduceLT, Nat.reduceLeDiff, Nat.reduceSub, Nat.reduceMul, Int.reduceLT, Int.reduceLE, Int.reduceToNat, Int.reduceNeg, Int.reduceEq, Int.reduceAdd, Int.reduceSub, Int.reduceMul, reduceCtorEq]) g1
          simp -implicitDefEqProofs (disch := (first | omega | (simp only [go_sem] <;> omega) | fail)) only [go_sem, Nat.reduceEqDiff, ↓reduceIte, Nat.reduceAdd, Nat.reduceLT, Nat.reduceLeDiff, Nat.reduceSub, Nat.reduceMul, Int.reduceLT, Int.reduceLE, Int.reduceToNat, Int.reduceNeg, Int.reduceEq, Int.reduceAdd, Int.reduceSub, Int.reduceMul, reduceCtorEq, oo]
          exact h σ2 k T (Old.trans (by simp -implicitDefEqProofs (disch := (first | omega | (simp only [go_sem] <;> omega) | fail)) only [go_sem, Nat.reduceEqDiff, ↓reduceIte, Nat.reduceAdd, Nat.reduceLT, Nat.reduceLeDiff, Nat.reduceSub, Nat.reduceMul, Int.reduceLT, Int.reduceLE, Int.reduceToNat, Int.reduceNeg, Int.reduceEq, Int.reduceAdd, Int.reduceSub, Int.reduceMul, reduceCtorEq]) oo) hT (hQ2.low (by show σ.n ≤ σ.n + 1 + 1; omega))
        · refine ⟨.tup (by intro y hy; simp at hy; rcases hy with rfl | rfl; exact .lit; exact .lit), fun σ2 g1 g2 g3 => ?_⟩
          have h' := h' (by rw [if_neg]; simp [negF_some] at hall; rintro ⟨_, _, _, _, g1, g2⟩; rw [hall g1] at g2; cases g2)
          have oo : Old (σ.new (.deep 2 [[sl jointRow v.joints, sl memRow v.members]])) σ2 := Old.trans (by simp -implicitDefEqProofs (disch := (first | omega | (simp only [go_sem] <;> omega) | fail)) only [go_sem, Nat.reduceEqDiff, ↓reduceIte, Nat.reduceAdd, Nat.reduceLT, Nat.reduceLeDiff, Nat.reduceSub, Nat.reduceMul, Int.reduceLT, Int.reduceLE, Int.reduceToNat, Int.reduceNeg, Int.reduceEq, Int.reduceAdd, Int.reduceSub, Int.reduceMul, reduceCtorEq]) g1
          simp -implicitDefEqProofs (disch := (first | omega | (simp only [go_sem] <;> omega) | fail)) only [go_sem, Nat.reduceEqDiff, ↓reduceIte, Nat.reduceAdd, Nat.reduceLT, Nat.reduceLeDiff, Nat.reduceSub, Nat.reduceMul, Int.reduceLT, Int.reduceLE, Int.reduceToNat, Int.reduceNeg, Int.reduceEq, Int.reduceAdd, Int.reduceSub, Int.reduceMul, reduceCtorEq, oo]
          exact h' σ2 (Old.trans (by simp -implicitDefEqProofs (disch := (first | omega | (simp only [go_sem] <;> omega) | fail)) only [go_sem, Nat.reduceEqDiff, ↓reduceIte, Nat.reduceAdd, Nat.reduceLT, Nat.reduceLeDiff, Nat.reduceSub, Nat.reduceMul, Int.reduceLT, Int.reduceLE, Int.reduceToNat, Int.reduceNeg, Int.reduceEq, Int.reduceAdd, Int.reduceSub, Int.reduceMul, reduceCtorEq]) oo)

set_option maxRecDepth 100000 in
set_option maxHeartbeats 1000000 in
theorem sreact_ok (v : SV) (l : List Int) (q : List RV) (joint : Int) (hs : ∀ j ∈ v.joints, j.name.size ≤ 1000000000) (hjn : v.joints.length ≤ 2000000) (hq : q.length ≤ 2000000) (hl : l.length ≤ 1000000000) (hsh : ∀ r ∈ q, r.short) (e : Env) (σ : St) (K : KT) (h : K (resV (reactO v l q joint)) e σ) :
    ACall Tryz.prog 31 [structV v, ints l, sl ratRow q, .lit (.int .i64 joint)] e σ K := by
  unfold structV
  refine ACall.pureW Tryz.func31 rfl Tryz.ntmps31 Tryz.results31 rfl rfl rfl ?_
  simp -implicitDefEqProofs (disch := (first | omega | (simp only [go_sem] <;> omega) | fail)) only [go_sem, Nat.reduceEqDiff, ↓reduceIte, Nat.reduceAdd, Nat.reduceLT, Nat.reduceLeDiff, Nat.reduceSub, Nat.reduceMul, Int.reduceLT, Int.reduceLE, Int.reduceToNat, Int.reduceNeg, Int.reduceEq, Int.reduceAdd, Int.reduceSub, Int.reduceMul, reduceCtorEq]
  refine callF.plain (sloadOk_ok v l hs hjn hl _ _ _ ?_)
  have hno : reactO v l q joint = none → K (.tup [.ps [], .lit (.bool false)]) e σ := fun hn => by rw [hn] at h; exact h
  unfold reactO at h hno
  cases hc1 : (structOkB v && loadOkB v l) with
  | false =>
    have hno := hno (if_neg (fun hh => by
      have h1 := hh.1
      unfold densB at h1
      simp only [Bool.and_eq_true] at h1
      rw [h1.1.1, hh.2.1] at hc1
      simp at hc1))
    simp -implicitDefEqProofs (disch := (first | omega | (simp only [go_sem] <;> omega) | fail)) only [go_sem, Nat.reduceEqDiff, ↓reduceIte, Nat.reduceAdd, Nat.reduceLT, Nat.reduceLeDiff, Nat.reduceSub, Nat.reduceMul, Int.reduceLT, Int.reduceLE, Int.reduceToNat, Int.reduceNeg, Int.reduceEq, Int.reduceAdd, Int.reduceSub, Int.reduceMul, reduceCtorEq]
    exact hno
  | true =>
    have hlo : loadOkB v l = true := by
      simp only [Bool.and_eq_true] at hc1; exact hc1.2
    simp -implicitDefEqProofs (disch := (first | omega | (simp only [go_sem] <;> omega) | fail)) only [go_sem, Nat.reduceEqDiff, ↓reduceIte, Nat.reduceAdd, Nat.reduceLT, Nat.reduceLeDiff, Nat.reduceSub, Nat.reduceMul, Int.reduceLT, Int.reduceLE, Int.reduceToNat, Int.reduceNeg, Int.reduceEq, Int.reduceAdd, Int.reduceSub, Int.reduceMul, reduceCtorEq]
    refine callF.plain (sfits_ok v q hs hq hsh _ _ _ ?_)
    cases hd : densB v q with
    | false =>
      have hno := hno (if_neg (by rw [hd]; simp))
      simp -implicitDefEqProofs (disch := (first | omega | (simp only [go_sem] <;> omega) | fail)) only [go_sem, Nat.reduceEqDiff, ↓reduceIte, Nat.reduceAdd, Nat.reduceLT, Nat.reduceLeDiff, Nat.reduceSub, Nat.reduceMul, Int.reduceLT, Int.reduceLE, Int.reduceToNat, Int.reduceNeg, Int.reduceEq, Int.reduceAdd, Int.reduceSub, Int.reduceMul, reduceCtorEq]
      exact hno
    | true =>
      obtain ⟨F, hlq, hv⟩ := densB_facts hd
      have hnj := F.nj
      simp -implicitDefEqProofs (disch := (first | omega | (simp only [go_sem] <;> omega) | fail)) only [go_sem, Nat.reduceEqDiff, ↓reduceIte, Nat.reduceAdd, Nat.reduceLT, Nat.reduceLeDiff, Nat.reduceSub, Nat.reduceMul, Int.reduceLT, Int.reduceLE, Int.reduceToNat, Int.reduceNeg, Int.reduceEq, Int.reduceAdd, Int.reduceSub, Int.reduceMul, reduceCtorEq, wrap_i64]
      refine callF.plain (sin_ok _ _ _ _ _ _ ?_)
      by_cases hj : ¬ (0 ≤ joint ∧ joint < v.joints.length)
      · have hjb : (decide (0 ≤ joint) && decide (joint ≤ (v.joints.length : Int) - 1)) = false := by simp; omega
        have hno := hno (if_neg (fun hh => hj hh.2.2.1))
        rw [hjb]
        simp -implicitDefEqProofs (disch := (first | omega | (simp only [go_sem] <;> omega) | fail)) only [go_sem, Nat.reduceEqDiff, ↓reduceIte, Nat.reduceAdd, Nat.reduceLT, Nat.reduceLeDiff, Nat.reduceSub, Nat.reduceMul, Int.reduceLT, Int.reduceLE, Int.reduceToNat, Int.reduceNeg, Int.reduceEq, Int.reduceAdd, Int.reduceSub, Int.reduceMul, reduceCtorEq]
        exact hno
      have hj := Decidable.not_not.1 hj
      have hjb : (decide (0 ≤ joint) && decide (joint ≤ (v.joints.length : Int) - 1)) = true := by simp; omega
      rw [hjb]
      obtain ⟨j, rfl⟩ : ∃ j : Nat, joint = j := ⟨joint.toNat, by omega⟩
      rw [Int.toNat_natCast] at h hno
      have hjl : j < v.joints.length := by omega
      have hj' : (j : Int) < v.joints.length := by omega
      obtain ⟨jv, hjv⟩ : ∃ jv, v.joints.getD j default = jv := ⟨_, rfl⟩
      have hfx : fixedAt v j = jv.fixed := by unfold fixedAt; rw [hjv]
      cases hf : jv.fixed with
      | false =>
        have hno := hno (if_neg (by rw [hfx, hf]; simp))
        simp -implicitDefEqProofs (disch := (first | omega | (simp only [go_sem] <;> omega) | fail)) only [go_sem, Nat.reduceEqDiff, ↓reduceIte, Nat.reduceAdd, Nat.reduceLT, Nat.reduceLeDiff, Nat.reduceSub, Nat.reduceMul, Int.reduceLT, Int.reduceLE, Int.reduceToNat, Int.reduceNeg, Int.reduceEq, Int.reduceAdd, Int.reduceSub, Int.reduceMul, reduceCtorEq, hj', hjv, jointRow_eq, hf]
        exact hno
      | true =>
        simp -implicitDefEqProofs (disch := (first | omega | (simp only [go_sem] <;> omega) | fail)) only [go_sem, Nat.reduceEqDiff, ↓reduceIte, Nat.reduceAdd, Nat.reduceLT, Nat.reduceLeDiff, Nat.reduceSub, Nat.reduceMul, Int.reduceLT, Int.reduceLE, Int.reduceToNat, Int.reduceNeg, Int.reduceEq, Int.reduceAdd, Int.reduceSub, Int.reduceMul, reduceCtorEq, hj', hjv, jointRow_eq, hf]
        refine callF.plain (sforce_ok v l q j hd hlo hjl hs hjn hq hsh _ _ _ ?_)
        unfold forceV
        have hso := sums_ok F hlo q j
        obtain ⟨sx, hsx⟩ : ∃ sx, sumX v q l j = sx := ⟨_, rfl⟩
        obtain ⟨sy, hsy⟩ : ∃ sy, sumY v q l j = sy := ⟨_, rfl⟩
        have hpp : sx.isSome = true ∧ sy.isSome = true → (pullF v (frsOf q) j).1.isSome = true ∧ (pullF v (frsOf q) j).2.isSome = true := by
          rintro ⟨g1, g2⟩
          rw [← hsx] at g1
          rw [← hsy] at g2
          unfold sumX at g1
          unfold sumY at g2
          constructor
          · cases hpx : (pullF v (frsOf q) (j : Int)).1 with
            | none => rw [hpx] at g1; cases g1
            | some a => rfl
          · cases hpy : (pullF v (frsOf q) (j : Int)).2 with
            | none => rw [hpy] at g2; cases g2
            | some a => rfl
        rw [hsx, hsy] at h hno hso ⊢
        by_cases hok : (pullF v (frsOf q) j).1.isSome = true ∧ (pullF v (frsOf q) j).2.isSome = true
        · rw [if_pos hok]
          by_cases hss : sx.isSome = true ∧ sy.isSome = true
          · rw [if_pos ⟨hd, hlo, ⟨by omega, hj'⟩, by rw [hfx, hf], hss⟩] at h
            have hb : (sx.isSome && sy.isSome) = true := by rw [hss.1, hss.2]; rfl
            have hnx : sx ≠ none := fun hh => by rw [hh] at hss; exact absurd hss.1 (by simp)
            have hny : sy ≠ none := fun hh => by rw [hh] at hss; exact absurd hss.2 (by simp)
            simp -implicitDefEqProofs (disch := (first | omega | (simp only [go_sem] <;> omega) | fail)) only [go_sem, Nat.reduceEqDiff, ↓reduceIte, Nat.reduceAdd, Nat.reduceLT, Nat.reduceLeDiff, Nat.reduceSub, Nat.reduceMul, Int.reduceLT, Int.reduceLE, Int.reduceToNat, Int.reduceNeg, Int.reduceEq, Int.reduceAdd, Int.reduceSub, Int.reduceMul, reduceCtorEq, hb]
            refine Sat.drawnT [8, 9, 10] (.one 8 (.one 9 (.one 10 .leaf))) mixed (by kernel_rfl) ?_
            simp -implicitDefEqProofs (disch := (first | omega | (simp only [go_sem] <;> omega) | fail)) only [go_sem, Nat.reduceEqDiff, ↓reduceIte, Nat.reduceAdd, Nat.reduceLT, Nat.reduceLeDiff, Nat.reduceSub, Nat.reduceMul, Int.reduceLT, Int.reduceLE, Int.reduceToNat, Int.reduceNeg, Int.reduceEq, Int.reduceAdd, Int.reduceSub, Int.reduceMul, reduceCtorEq, ratRow_eq]
            refine exQ.intro (fun n' hh => sneg_ok sx hso.1 hnx _ _ _ ⟨rfl, rfl⟩) ?_
            try simp -implicitDefEqProofs (disch := (first | omega | (simp only [go_sem] <;> omega) | fail)) only [go_sem, Nat.reduceEqDiff, ↓reduceIte, Nat.reduceAdd, Nat.reduceLT, Nat.reduceLeDiff, Nat.reduceSub, Nat.reduceMul, Int.reduceLT, Int.reduceLE, Int.reduceToNat, Int.reduceNeg, Int.reduceEq, Int.reduceAdd, Int.reduceSub, Int.reduceMul, reduceCtorEq, ratRow_eq]
            refine exQ.intro (fun n' hh => sneg_ok sy hso.2 hny _ _ _ ⟨rfl, rfl⟩) ?_
            unfold ratV
            simp -implicitDefEqProofs (disch := (first | omega | (simp only [go_sem] <;> omega) | fail)) only [go_sem, Nat.reduceEqDiff, ↓reduceIte, Nat.reduceAdd, Nat.reduceLT, Nat.reduceLeDiff, Nat.reduceSub, Nat.reduceMul, Int.reduceLT, Int.reduceLE, Int.reduceToNat, Int.reduceNeg, Int.reduceEq, Int.reduceAdd, Int.reduceSub, Int.reduceMul, reduceCtorEq]
            exact h
          · have hb : (sx.isSome && sy.isSome) = false := by
              cases h1 : sx.isSome <;> cases h2 : sy.isSome <;> simp_all
            have hno := hno (if_neg (fun hh => hss hh.2.2.2.2))
            simp -implicitDefEqProofs (disch := (first | omega | (simp only [go_sem] <;> omega) | fail)) only [go_sem, Nat.reduceEqDiff, ↓reduceIte, Nat.reduceAdd, Nat.reduceLT, Nat.reduceLeDiff, Nat.reduceSub, Nat.reduceMul, Int.reduceLT, Int.reduceLE, Int.reduceToNat, Int.reduceNeg, Int.reduceEq, Int.reduceAdd, Int.reduceSub, Int.reduceMul, reduceCtorEq, hb]
            exact hno
        · have hno := hno (if_neg (fun hh => hok (hpp hh.2.2.2.2)))
          rw [if_neg hok]
          simp -implicitDefEqProofs (disch := (first | omega | (simp only [go_sem] <;> omega) | fail)) only [go_sem, Nat.reduceEqDiff, ↓reduceIte, Nat.reduceAdd, Nat.reduceLT, Nat.reduceLeDiff, Nat.reduceSub, Nat.reduceMul, Int.reduceLT, Int.reduceLE, Int.reduceToNat, Int.reduceNeg, Int.reduceEq, Int.reduceAdd, Int.reduceSub, Int.reduceMul, reduceCtorEq]
          exact hno
end Go.Proofs.Qqz
