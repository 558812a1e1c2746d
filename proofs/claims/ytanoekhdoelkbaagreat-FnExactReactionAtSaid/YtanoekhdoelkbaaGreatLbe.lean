/- The law of ReactionAt, as a contract. -/
import Derived.Test.YtanoekhdoelkbaaGreatOwf
set_option linter.unusedSimpArgs false
set_option linter.unusedVariables false
namespace Go.Proofs.Qqz
open Go

set_option maxRecDepth 100000 in
set_option maxHeartbeats 1000000 in
theorem lawReactionAt_ok (v : SV) (l : List Int) (q : List RV) (joint : Int) (hv : v.big) (hl : l.length ≤ 9223372036854775807) (hq : bigQ q) (e : Env) (σ : St) (K : KT) (h : K (.lit (.bool true)) e σ) :
    ACall Tryz.prog 8 [structV v, ints l, sl ratRow q, .lit (.int .i64 joint)] e σ K := by
  unfold structV
  refine ACall.pureW Tryz.func8 rfl Tryz.ntmps8 Tryz.results8 rfl rfl rfl ?_
  by_cases hl1 : (1048576 : Int) < l.length
  · simp -implicitDefEqProofs (disch := (first | omega | (simp only [go_sem] <;> omega) | fail)) only [go_sem, Nat.reduceEqDiff, ↓reduceIte, Nat.reduceAdd, Nat.reduceLT, Nat.reduceLeDiff, Nat.reduceSub, Nat.reduceMul, Int.reduceLT, Int.reduceLE, Int.reduceToNat, Int.reduceNeg, Int.reduceEq, Int.reduceAdd, Int.reduceSub, Int.reduceMul, reduceCtorEq, hl1]
    exact h
  simp -implicitDefEqProofs (disch := (first | omega | (simp only [go_sem] <;> omega) | fail)) only [go_sem, Nat.reduceEqDiff, ↓reduceIte, Nat.reduceAdd, Nat.reduceLT, Nat.reduceLeDiff, Nat.reduceSub, Nat.reduceMul, Int.reduceLT, Int.reduceLE, Int.reduceToNat, Int.reduceNeg, Int.reduceEq, Int.reduceAdd, Int.reduceSub, Int.reduceMul, reduceCtorEq, hl1]
  refine callF.plain (szStruct_ok v hv 1048576 (by omega) (by omega) _ _ _ fun r q0 q1 q2 => ?_)
  by_cases hr : r < 0
  · simp -implicitDefEqProofs (disch := (first | omega | (simp only [go_sem] <;> omega) | fail)) only [go_sem, Nat.reduceEqDiff, ↓reduceIte, Nat.reduceAdd, Nat.reduceLT, Nat.reduceLeDiff, Nat.reduceSub, Nat.reduceMul, Int.reduceLT, Int.reduceLE, Int.reduceToNat, Int.reduceNeg, Int.reduceEq, Int.reduceAdd, Int.reduceSub, Int.reduceMul, reduceCtorEq, hr]
    exact h
  have sv := q2 (by omega)
  simp -implicitDefEqProofs (disch := (first | omega | (simp only [go_sem] <;> omega) | fail)) only [go_sem, Nat.reduceEqDiff, ↓reduceIte, Nat.reduceAdd, Nat.reduceLT, Nat.reduceLeDiff, Nat.reduceSub, Nat.reduceMul, Int.reduceLT, Int.reduceLE, Int.reduceToNat, Int.reduceNeg, Int.reduceEq, Int.reduceAdd, Int.reduceSub, Int.reduceMul, reduceCtorEq, hr]
  refine callF.plain (szRats_ok q hq r (by omega) (by omega) _ _ _ fun r2 p0 p1 p2 => ?_)
  by_cases hr2 : r2 < 0
  · simp -implicitDefEqProofs (disch := (first | omega | (simp only [go_sem] <;> omega) | fail)) only [go_sem, Nat.reduceEqDiff, ↓reduceIte, Nat.reduceAdd, Nat.reduceLT, Nat.reduceLeDiff, Nat.reduceSub, Nat.reduceMul, Int.reduceLT, Int.reduceLE, Int.reduceToNat, Int.reduceNeg, Int.reduceEq, Int.reduceAdd, Int.reduceSub, Int.reduceMul, reduceCtorEq, hr2]
    exact h
  have sq : smallQ q := p2 (by omega)
  have sl1 := sv.lens
  have hql := sq.1
  have hjl := sv.1.1
  simp -implicitDefEqProofs (disch := (first | omega | (simp only [go_sem] <;> omega) | fail)) only [go_sem, Nat.reduceEqDiff, ↓reduceIte, Nat.reduceAdd, Nat.reduceLT, Nat.reduceLeDiff, Nat.reduceSub, Nat.reduceMul, Int.reduceLT, Int.reduceLE, Int.reduceToNat, Int.reduceNeg, Int.reduceEq, Int.reduceAdd, Int.reduceSub, Int.reduceMul, reduceCtorEq, hr2]
  refine callF.plain (toStruct_ok v sl1.1 sl1.2 _ _ _ ?_)
  unfold structV
  simp -implicitDefEqProofs (disch := (first | omega | (simp only [go_sem] <;> omega) | fail)) only [go_sem, Nat.reduceEqDiff, ↓reduceIte, Nat.reduceAdd, Nat.reduceLT, Nat.reduceLeDiff, Nat.reduceSub, Nat.reduceMul, Int.reduceLT, Int.reduceLE, Int.reduceToNat, Int.reduceNeg, Int.reduceEq, Int.reduceAdd, Int.reduceSub, Int.reduceMul, reduceCtorEq]
  refine callF.plain (toInts_ok l (by omega) _ _ _ ?_)
  simp -implicitDefEqProofs (disch := (first | omega | (simp only [go_sem] <;> omega) | fail)) only [go_sem, Nat.reduceEqDiff, ↓reduceIte, Nat.reduceAdd, Nat.reduceLT, Nat.reduceLeDiff, Nat.reduceSub, Nat.reduceMul, Int.reduceLT, Int.reduceLE, Int.reduceToNat, Int.reduceNeg, Int.reduceEq, Int.reduceAdd, Int.reduceSub, Int.reduceMul, reduceCtorEq]
  refine callF.plain (toRats_ok q (by omega) sq.pre _ _ _ ?_)
  simp -implicitDefEqProofs (disch := (first | omega | (simp only [go_sem] <;> omega) | fail)) only [go_sem, Nat.reduceEqDiff, ↓reduceIte, Nat.reduceAdd, Nat.reduceLT, Nat.reduceLeDiff, Nat.reduceSub, Nat.reduceMul, Int.reduceLT, Int.reduceLE, Int.reduceToNat, Int.reduceNeg, Int.reduceEq, Int.reduceAdd, Int.reduceSub, Int.reduceMul, reduceCtorEq]
  refine callF.plain (sreact_ok v l q joint sv.names (by omega) (by omega) (by omega) sq.short _ _ _ ?_)
  have hsm := reactO_small v l q joint
  have hown := fun (e : Env) (σ : St) (K : KT) => react_own v l q joint sv.names (by omega) (by omega) (by omega) e σ K
  obtain ⟨o, ho⟩ : ∃ o, reactO v l q joint = o := ⟨_, rfl⟩
  rw [ho] at hsm ⊢
  simp only [ho] at hown
  unfold resV
  simp -implicitDefEqProofs (disch := (first | omega | (simp only [go_sem] <;> omega) | fail)) only [go_sem, Nat.reduceEqDiff, ↓reduceIte, Nat.reduceAdd, Nat.reduceLT, Nat.reduceLeDiff, Nat.reduceSub, Nat.reduceMul, Int.reduceLT, Int.reduceLE, Int.reduceToNat, Int.reduceNeg, Int.reduceEq, Int.reduceAdd, Int.reduceSub, Int.reduceMul, reduceCtorEq]
  refine callF.plain (toStruct_own v sl1.1 sl1.2 _ _ _ fun σ1 a b hO1 hS => ?_)
  have n1 := hO1.le (k := σ.n + 1) (by first | omega | (simp -implicitDefEqProofs (disch := (first | omega | (simp only [go_sem] <;> omega) | fail)) only [go_sem, Nat.reduceEqDiff, ↓reduceIte, Nat.reduceAdd, Nat.reduceLT, Nat.reduceLeDiff, Nat.reduceSub, Nat.reduceMul, Int.reduceLT, Int.reduceLE, Int.reduceToNat, Int.reduceNeg, Int.reduceEq, Int.reduceAdd, Int.reduceSub, Int.reduceMul, reduceCtorEq]; omega))
  have b0 := hO1.get (k := σ.n) (by first | omega | (simp -implicitDefEqProofs (disch := (first | omega | (simp only [go_sem] <;> omega) | fail)) only [go_sem, Nat.reduceEqDiff, ↓reduceIte, Nat.reduceAdd, Nat.reduceLT, Nat.reduceLeDiff, Nat.reduceSub, Nat.reduceMul, Int.reduceLT, Int.reduceLE, Int.reduceToNat, Int.reduceNeg, Int.reduceEq, Int.reduceAdd, Int.reduceSub, Int.reduceMul, reduceCtorEq]; omega)) (by simp -implicitDefEqProofs (disch := (first | omega | (simp only [go_sem] <;> omega) | fail)) only [go_sem, Nat.reduceEqDiff, ↓reduceIte, Nat.reduceAdd, Nat.reduceLT, Nat.reduceLeDiff, Nat.reduceSub, Nat.reduceMul, Int.reduceLT, Int.reduceLE, Int.reduceToNat, Int.reduceNeg, Int.reduceEq, Int.reduceAdd, Int.reduceSub, Int.reduceMul, reduceCtorEq]; rfl)
  have o1 : Old σ σ1 := Old.trans (by simp -implicitDefEqProofs (disch := (first | omega | (simp only [go_sem] <;> omega) | fail)) only [go_sem, Nat.reduceEqDiff, ↓reduceIte, Nat.reduceAdd, Nat.reduceLT, Nat.reduceLeDiff, Nat.reduceSub, Nat.reduceMul, Int.reduceLT, Int.reduceLE, Int.reduceToNat, Int.reduceNeg, Int.reduceEq, Int.reduceAdd, Int.reduceSub, Int.reduceMul, reduceCtorEq]) hO1
  have hSl := hS.low (lo' := σ.n + 1) (by first | omega | (simp -implicitDefEqProofs (disch := (first | omega | (simp only [go_sem] <;> omega) | fail)) only [go_sem, Nat.reduceEqDiff, ↓reduceIte, Nat.reduceAdd, Nat.reduceLT, Nat.reduceLeDiff, Nat.reduceSub, Nat.reduceMul, Int.reduceLT, Int.reduceLE, Int.reduceToNat, Int.reduceNeg, Int.reduceEq, Int.reduceAdd, Int.reduceSub, Int.reduceMul, reduceCtorEq]; omega))
  clear hO1 hS
  unfold ownS
  simp -implicitDefEqProofs (disch := (first | omega | (simp only [go_sem] <;> omega) | fail)) only [go_sem, Nat.reduceEqDiff, ↓reduceIte, Nat.reduceAdd, Nat.reduceLT, Nat.reduceLeDiff, Nat.reduceSub, Nat.reduceMul, Int.reduceLT, Int.reduceLE, Int.reduceToNat, Int.reduceNeg, Int.reduceEq, Int.reduceAdd, Int.reduceSub, Int.reduceMul, reduceCtorEq]
  refine callF.plain (toInts_own l (by omega) _ _ _ fun σ9 m hO9 hm1 hm2 hM => ?_)
  have n9 := hO9.le (k := σ1.n + 1) (by first | omega | (simp -implicitDefEqProofs (disch := (first | omega | (simp only [go_sem] <;> omega) | fail)) only [go_sem, Nat.reduceEqDiff, ↓reduceIte, Nat.reduceAdd, Nat.reduceLT, Nat.reduceLeDiff, Nat.reduceSub, Nat.reduceMul, Int.reduceLT, Int.reduceLE, Int.reduceToNat, Int.reduceNeg, Int.reduceEq, Int.reduceAdd, Int.reduceSub, Int.reduceMul, reduceCtorEq]; omega))
  have b9 := hO9.get (k := σ.n) (by first | omega | (simp -implicitDefEqProofs (disch := (first | omega | (simp only [go_sem] <;> omega) | fail)) only [go_sem, Nat.reduceEqDiff, ↓reduceIte, Nat.reduceAdd, Nat.reduceLT, Nat.reduceLeDiff, Nat.reduceSub, Nat.reduceMul, Int.reduceLT, Int.reduceLE, Int.reduceToNat, Int.reduceNeg, Int.reduceEq, Int.reduceAdd, Int.reduceSub, Int.reduceMul, reduceCtorEq]; omega)) (by simp -implicitDefEqProofs (disch := (first | omega | (simp only [go_sem] <;> omega) | fail)) only [go_sem, Nat.reduceEqDiff, ↓reduceIte, Nat.reduceAdd, Nat.reduceLT, Nat.reduceLeDiff, Nat.reduceSub, Nat.reduceMul, Int.reduceLT, Int.reduceLE, Int.reduceToNat, Int.reduceNeg, Int.reduceEq, Int.reduceAdd, Int.reduceSub, Int.reduceMul, reduceCtorEq, b0]; rfl)
  have c9 := hO9.get (k := σ1.n) (by first | omega | (simp -implicitDefEqProofs (disch := (first | omega | (simp only [go_sem] <;> omega) | fail)) only [go_sem, Nat.reduceEqDiff, ↓reduceIte, Nat.reduceAdd, Nat.reduceLT, Nat.reduceLeDiff, Nat.reduceSub, Nat.reduceMul, Int.reduceLT, Int.reduceLE, Int.reduceToNat, Int.reduceNeg, Int.reduceEq, Int.reduceAdd, Int.reduceSub, Int.reduceMul, reduceCtorEq]; omega)) (by simp -implicitDefEqProofs (disch := (first | omega | (simp only [go_sem] <;> omega) | fail)) only [go_sem, Nat.reduceEqDiff, ↓reduceIte, Nat.reduceAdd, Nat.reduceLT, Nat.reduceLeDiff, Nat.reduceSub, Nat.reduceMul, Int.reduceLT, Int.reduceLE, Int.reduceToNat, Int.reduceNeg, Int.reduceEq, Int.reduceAdd, Int.reduceSub, Int.reduceMul, reduceCtorEq]; rfl)
  have o19 : Old σ1 σ9 := Old.trans (by simp -implicitDefEqProofs (disch := (first | omega | (simp only [go_sem] <;> omega) | fail)) only [go_sem, Nat.reduceEqDiff, ↓reduceIte, Nat.reduceAdd, Nat.reduceLT, Nat.reduceLeDiff, Nat.reduceSub, Nat.reduceMul, Int.reduceLT, Int.reduceLE, Int.reduceToNat, Int.reduceNeg, Int.reduceEq, Int.reduceAdd, Int.reduceSub, Int.reduceMul, reduceCtorEq]) hO9
  have hS9 := hSl.old o19
  have o9 := o1.trans o19
  have hm1' : σ1.n + 1 ≤ m := Nat.le_trans (by first | omega | (simp -implicitDefEqProofs (disch := (first | omega | (simp only [go_sem] <;> omega) | fail)) only [go_sem, Nat.reduceEqDiff, ↓reduceIte, Nat.reduceAdd, Nat.reduceLT, Nat.reduceLeDiff, Nat.reduceSub, Nat.reduceMul, Int.reduceLT, Int.reduceLE, Int.reduceToNat, Int.reduceNeg, Int.reduceEq, Int.reduceAdd, Int.reduceSub, Int.reduceMul, reduceCtorEq]; omega)) hm1
  clear hO9 hSl hm1
  simp -implicitDefEqProofs (disch := (first | omega | (simp only [go_sem] <;> omega) | fail)) only [go_sem, Nat.reduceEqDiff, ↓reduceIte, Nat.reduceAdd, Nat.reduceLT, Nat.reduceLeDiff, Nat.reduceSub, Nat.reduceMul, Int.reduceLT, Int.reduceLE, Int.reduceToNat, Int.reduceNeg, Int.reduceEq, Int.reduceAdd, Int.reduceSub, Int.reduceMul, reduceCtorEq]
  refine callF.plain (toRats_own q (by omega) sq.pre _ _ _ fun σ2 k T hO2 hT hQ => ?_)
  have n2 := hO2.le (k := σ9.n) (Nat.le_refl _)
  have b2 := hO2.get (k := σ.n) (by omega) b9
  have c2 := hO2.get (k := σ1.n) (by omega) c9
  have hM2 := hO2.get hm2 hM
  have hS2 := hS9.old hO2
  have o2 := o9.trans hO2
  have hG1 : GB σ2 σ9.n σ2.n (some q) (.os k 0 q.length) := ⟨k, T, rfl, hT, hQ⟩
  simp -implicitDefEqProofs (disch := (first | omega | (simp only [go_sem] <;> omega) | fail)) only [go_sem, Nat.reduceEqDiff, ↓reduceIte, Nat.reduceAdd, Nat.reduceLT, Nat.reduceLeDiff, Nat.reduceSub, Nat.reduceMul, Int.reduceLT, Int.reduceLE, Int.reduceToNat, Int.reduceNeg, Int.reduceEq, Int.reduceAdd, Int.reduceSub, Int.reduceMul, reduceCtorEq, b2, c2]
  refine callF.plain ?_
  refine ACall.lend ?_
  refine ACall.eq_args (l' := [structV v, ints l, sl ratRow q, .lit (.int .i64 joint)]) (by
    show [frz 0 σ2 6 true (ownS v a b), frz 0 σ2 (5 + 1) true (.os m 0 l.length), frz 0 σ2 6 true (.os k 0 q.length), _] = _
    rw [frz_ownS hS2, frz_bl hM2, frz_Q hQ hT]; rfl) ?_
  refine hown _ _ _ fun σ3' x hO3 hG => ⟨.tup (by intro y hy; simp at hy; rcases hy with rfl | rfl; exact hG.noPs; exact .lit), fun σ3 g1 g2 g3 => ?_⟩
  have hG3 : GB σ3 σ2.n σ3.n o x := by
    have := hG.congr (σ' := σ3) (by rw [g2]; exact Nat.le_refl _) (fun k hk _ hp => g3 k hk hp)
    rw [← g2] at this
    exact this
  have b3 := g1.get (k := σ.n) (by omega) b2
  have c3 := g1.get (k := σ1.n) (by omega) c2
  have hS3 := hS2.old g1
  have hM3 := g1.get (by omega) hM2
  have hG13 := hG1.old g1 (Nat.le_refl _)
  have o3 := o2.trans g1
  have n3 := g1.1
  clear g2 g3 hG hO3 hQ
  simp -implicitDefEqProofs (disch := (first | omega | (simp only [go_sem] <;> omega) | fail)) only [go_sem, Nat.reduceEqDiff, ↓reduceIte, Nat.reduceAdd, Nat.reduceLT, Nat.reduceLeDiff, Nat.reduceSub, Nat.reduceMul, Int.reduceLT, Int.reduceLE, Int.reduceToNat, Int.reduceNeg, Int.reduceEq, Int.reduceAdd, Int.reduceSub, Int.reduceMul, reduceCtorEq, b3, c3]
  refine callF.plain (eqG_ok o hsm _ _ hG3 _ ?_)
  have hbb : (o.isSome == o.isSome) = true := by simp
  simp -implicitDefEqProofs (disch := (first | omega | (simp only [go_sem] <;> omega) | fail)) only [go_sem, Nat.reduceEqDiff, ↓reduceIte, Nat.reduceAdd, Nat.reduceLT, Nat.reduceLeDiff, Nat.reduceSub, Nat.reduceMul, Int.reduceLT, Int.reduceLE, Int.reduceToNat, Int.reduceNeg, Int.reduceEq, Int.reduceAdd, Int.reduceSub, Int.reduceMul, reduceCtorEq, b3, c3, hbb]
  refine Sat.drawn0 [] mixed (by kernel_rfl) ?_
  simp -implicitDefEqProofs (disch := (first | omega | (simp only [go_sem] <;> omega) | fail)) only [go_sem, Nat.reduceEqDiff, ↓reduceIte, Nat.reduceAdd, Nat.reduceLT, Nat.reduceLeDiff, Nat.reduceSub, Nat.reduceMul, Int.reduceLT, Int.reduceLE, Int.reduceToNat, Int.reduceNeg, Int.reduceEq, Int.reduceAdd, Int.reduceSub, Int.reduceMul, reduceCtorEq, b3, c3]
  refine exQ.intro (toStruct_ok v sl1.1 sl1.2 _ _ _ ⟨rfl, rfl⟩) ?_
  try simp -implicitDefEqProofs (disch := (first | omega | (simp only [go_sem] <;> omega) | fail)) only [go_sem, Nat.reduceEqDiff, ↓reduceIte, Nat.reduceAdd, Nat.reduceLT, Nat.reduceLeDiff, Nat.reduceSub, Nat.reduceMul, Int.reduceLT, Int.reduceLE, Int.reduceToNat, Int.reduceNeg, Int.reduceEq, Int.reduceAdd, Int.reduceSub, Int.reduceMul, reduceCtorEq]
  refine exQ.intro (eqStructG_ok v sl1.1 sl1.2 _ _ hS3 _ ⟨rfl, rfl⟩) ?_
  simp -implicitDefEqProofs (disch := (first | omega | (simp only [go_sem] <;> omega) | fail)) only [go_sem, Nat.reduceEqDiff, ↓reduceIte, Nat.reduceAdd, Nat.reduceLT, Nat.reduceLeDiff, Nat.reduceSub, Nat.reduceMul, Int.reduceLT, Int.reduceLE, Int.reduceToNat, Int.reduceNeg, Int.reduceEq, Int.reduceAdd, Int.reduceSub, Int.reduceMul, reduceCtorEq]
  refine callF.plain (toInts_ok l (by omega) _ _ _ ?_)
  simp -implicitDefEqProofs (disch := (first | omega | (simp only [go_sem] <;> omega) | fail)) only [go_sem, Nat.reduceEqDiff, ↓reduceIte, Nat.reduceAdd, Nat.reduceLT, Nat.reduceLeDiff, Nat.reduceSub, Nat.reduceMul, Int.reduceLT, Int.reduceLE, Int.reduceToNat, Int.reduceNeg, Int.reduceEq, Int.reduceAdd, Int.reduceSub, Int.reduceMul, reduceCtorEq]
  refine callF.plain (eqIntsG_ok l (by omega) _ _ hM3 _ ?_)
  simp -implicitDefEqProofs (disch := (first | omega | (simp only [go_sem] <;> omega) | fail)) only [go_sem, Nat.reduceEqDiff, ↓reduceIte, Nat.reduceAdd, Nat.reduceLT, Nat.reduceLeDiff, Nat.reduceSub, Nat.reduceMul, Int.reduceLT, Int.reduceLE, Int.reduceToNat, Int.reduceNeg, Int.reduceEq, Int.reduceAdd, Int.reduceSub, Int.reduceMul, reduceCtorEq]
  refine callF.plain (toRats_ok q (by omega) sq.pre _ _ _ ?_)
  simp -implicitDefEqProofs (disch := (first | omega | (simp only [go_sem] <;> omega) | fail)) only [go_sem, Nat.reduceEqDiff, ↓reduceIte, Nat.reduceAdd, Nat.reduceLT, Nat.reduceLeDiff, Nat.reduceSub, Nat.reduceMul, Int.reduceLT, Int.reduceLE, Int.reduceToNat, Int.reduceNeg, Int.reduceEq, Int.reduceAdd, Int.reduceSub, Int.reduceMul, reduceCtorEq]
  have hsq : smallB (resQ (some q)) := ⟨by show q.length ≤ _; omega, sq.pre⟩
  refine callF.plain (eqG_ok (some q) hsq _ _ hG13 _ ?_)
  simp -implicitDefEqProofs (disch := (first | omega | (simp only [go_sem] <;> omega) | fail)) only [go_sem, Nat.reduceEqDiff, ↓reduceIte, Nat.reduceAdd, Nat.reduceLT, Nat.reduceLeDiff, Nat.reduceSub, Nat.reduceMul, Int.reduceLT, Int.reduceLE, Int.reduceToNat, Int.reduceNeg, Int.reduceEq, Int.reduceAdd, Int.reduceSub, Int.reduceMul, reduceCtorEq, b3, c3]
  refine callF.plain (markStruct_own v sl1.1 sl1.2 1 (by omega) (by omega) (σ.n + 1) σ1.n a b _ _ hS3 _ fun σ4 m1 m2 => ?_)
  have b4 := (m2 σ.n (by omega) (by omega)).trans b3
  have hG4 : GB σ4 σ2.n σ3.n o x := hG3.congr m1 fun k h1 h2 _ => m2 k h2 (by omega)
  have hG14 : GB σ4 σ9.n σ2.n (some q) (.os k 0 q.length) := hG13.congr m1 fun k h1 h2 _ => m2 k (by omega) (by omega)
  have hM4 := (m2 m (by omega) (by omega)).trans hM3
  have hn3 := o3.1
  have o4 : Old σ σ4 := ⟨by omega, fun k hk => (m2 k (by omega) (by omega)).trans (o3.2 k hk)⟩
  clear m2 hG3 hG13 hS3 hS2
  simp -implicitDefEqProofs (disch := (first | omega | (simp only [go_sem] <;> omega) | fail)) only [go_sem, Nat.reduceEqDiff, ↓reduceIte, Nat.reduceAdd, Nat.reduceLT, Nat.reduceLeDiff, Nat.reduceSub, Nat.reduceMul, Int.reduceLT, Int.reduceLE, Int.reduceToNat, Int.reduceNeg, Int.reduceEq, Int.reduceAdd, Int.reduceSub, Int.reduceMul, reduceCtorEq, b4]
  refine callF.plain (markInts_own l (by omega) _ (by omega) (by omega) m _ _ (by omega) hM4 _ ?_)
  have mo : ∀ k, k ≠ m → ∀ B, (σ4.put m B).h k = σ4.h k := fun k hk B => by simp [St.put, hk]
  obtain ⟨B8, hB8⟩ : ∃ B, B = bl intRow 1 (markI (1 + 4 * (v.joints.length : Int) + 3 * v.members.length) l.length) := ⟨_, rfl⟩
  rw [← hB8]
  obtain ⟨σ8, hσ8⟩ : ∃ σ8, σ8 = σ4.put m B8 := ⟨_, rfl⟩
  have m8 : σ8.n = σ4.n := by rw [hσ8]; rfl
  have m9 : ∀ k, k ≠ m → σ8.h k = σ4.h k := by rw [hσ8]; exact fun k hk => mo k hk _
  rw [← hσ8]
  clear hσ8 mo hM4 hM3
  have b8 := (m9 σ.n (by omega)).trans b4
  have hG84 : GB σ8 σ9.n σ2.n (some q) (.os k 0 q.length) := hG14.congr (by omega) fun k h1 h2 _ => m9 k (by omega)
  have hG88 : GB σ8 σ2.n σ3.n o x := hG4.congr (by omega) fun k h1 h2 _ => m9 k (by omega)
  have o8 : Old σ σ8 := ⟨by have := o4.1; omega, fun k hk => (m9 k (by omega)).trans (o4.2 k hk)⟩
  clear hG14 hG4 m9
  simp -implicitDefEqProofs (disch := (first | omega | (simp only [go_sem] <;> omega) | fail)) only [go_sem, Nat.reduceEqDiff, ↓reduceIte, Nat.reduceAdd, Nat.reduceLT, Nat.reduceLeDiff, Nat.reduceSub, Nat.reduceMul, Int.reduceLT, Int.reduceLE, Int.reduceToNat, Int.reduceNeg, Int.reduceEq, Int.reduceAdd, Int.reduceSub, Int.reduceMul, reduceCtorEq, b8]
  refine callF.plain (markG_ok (some q) hsq _ (by omega) (by show _ + 4000001 * ((q.length : Nat) : Int) ≤ _; omega) _ _ hG84 _ fun σ5 p1 p2 _ => ?_)
  have b5 := (p2 σ.n (by omega)).trans b8
  have hG5 : GB σ5 σ2.n σ3.n o x := hG88.congr (by omega) fun k h1 h2 _ => p2 k (by omega)
  have o5 : Old σ σ5 := ⟨by omega, fun k hk => (p2 k (by omega)).trans (o8.2 k hk)⟩
  clear p2 hG84 hG88
  have hk5 := kAt_pos (k := 1 + 4 * (v.joints.length : Int) + 3 * v.members.length + l.length) (by omega) (resQ (some q)) (resQ (some q)).length
  have hk5' := eq_false (Int.not_lt.2 hk5)
  simp -implicitDefEqProofs (disch := (first | omega | (simp only [go_sem] <;> omega) | fail)) only [go_sem, Nat.reduceEqDiff, ↓reduceIte, Nat.reduceAdd, Nat.reduceLT, Nat.reduceLeDiff, Nat.reduceSub, Nat.reduceMul, Int.reduceLT, Int.reduceLE, Int.reduceToNat, Int.reduceNeg, Int.reduceEq, Int.reduceAdd, Int.reduceSub, Int.reduceMul, reduceCtorEq, b5, hk5']
  refine callF.plain (eqG_ok o hsm _ _ hG5 _ ?_)
  simp -implicitDefEqProofs (disch := (first | omega | (simp only [go_sem] <;> omega) | fail)) only [go_sem, Nat.reduceEqDiff, ↓reduceIte, Nat.reduceAdd, Nat.reduceLT, Nat.reduceLeDiff, Nat.reduceSub, Nat.reduceMul, Int.reduceLT, Int.reduceLE, Int.reduceToNat, Int.reduceNeg, Int.reduceEq, Int.reduceAdd, Int.reduceSub, Int.reduceMul, reduceCtorEq, b5, hbb]
  have hol : (resQ o).length ≤ 2000000 := hsm.1
  refine callF.plain (markG_ok o hsm 1 (by omega) (by omega) _ _ hG5 _ fun σ6 p3 p4 hG6 => ?_)
  have b6 := (p4 σ.n (by omega)).trans b5
  have o6 : Old σ σ6 := ⟨by omega, fun k hk => (p4 k (by omega)).trans (o5.2 k hk)⟩
  clear p4 hG5
  simp -implicitDefEqProofs (disch := (first | omega | (simp only [go_sem] <;> omega) | fail)) only [go_sem, Nat.reduceEqDiff, ↓reduceIte, Nat.reduceAdd, Nat.reduceLT, Nat.reduceLeDiff, Nat.reduceSub, Nat.reduceMul, Int.reduceLT, Int.reduceLE, Int.reduceToNat, Int.reduceNeg, Int.reduceEq, Int.reduceAdd, Int.reduceSub, Int.reduceMul, reduceCtorEq, b6]
  refine callF.plain (heldG_ok o hsm 1 (by omega) (by omega) _ _ hG6 _ ?_)
  have hk6 := kAt_pos (k := 1) (by omega) (resQ o) (resQ o).length
  have hk6' := eq_false (Int.not_lt.2 hk6)
  simp -implicitDefEqProofs (disch := (first | omega | (simp only [go_sem] <;> omega) | fail)) only [go_sem, Nat.reduceEqDiff, ↓reduceIte, Nat.reduceAdd, Nat.reduceLT, Nat.reduceLeDiff, Nat.reduceSub, Nat.reduceMul, Int.reduceLT, Int.reduceLE, Int.reduceToNat, Int.reduceNeg, Int.reduceEq, Int.reduceAdd, Int.reduceSub, Int.reduceMul, reduceCtorEq, b6, hk6']
  refine callF.plain (toStruct_ok v sl1.1 sl1.2 _ _ _ ?_)
  unfold structV
  simp -implicitDefEqProofs (disch := (first | omega | (simp only [go_sem] <;> omega) | fail)) only [go_sem, Nat.reduceEqDiff, ↓reduceIte, Nat.reduceAdd, Nat.reduceLT, Nat.reduceLeDiff, Nat.reduceSub, Nat.reduceMul, Int.reduceLT, Int.reduceLE, Int.reduceToNat, Int.reduceNeg, Int.reduceEq, Int.reduceAdd, Int.reduceSub, Int.reduceMul, reduceCtorEq]
  refine callF.plain (toInts_ok l (by omega) _ _ _ ?_)
  simp -implicitDefEqProofs (disch := (first | omega | (simp only [go_sem] <;> omega) | fail)) only [go_sem, Nat.reduceEqDiff, ↓reduceIte, Nat.reduceAdd, Nat.reduceLT, Nat.reduceLeDiff, Nat.reduceSub, Nat.reduceMul, Int.reduceLT, Int.reduceLE, Int.reduceToNat, Int.reduceNeg, Int.reduceEq, Int.reduceAdd, Int.reduceSub, Int.reduceMul, reduceCtorEq]
  refine callF.plain (toRats_ok q (by omega) sq.pre _ _ _ ?_)
  simp -implicitDefEqProofs (disch := (first | omega | (simp only [go_sem] <;> omega) | fail)) only [go_sem, Nat.reduceEqDiff, ↓reduceIte, Nat.reduceAdd, Nat.reduceLT, Nat.reduceLeDiff, Nat.reduceSub, Nat.reduceMul, Int.reduceLT, Int.reduceLE, Int.reduceToNat, Int.reduceNeg, Int.reduceEq, Int.reduceAdd, Int.reduceSub, Int.reduceMul, reduceCtorEq]
  refine callF.plain (hown _ _ _ fun σ7 y hO7 hG7 => ?_)
  have hG67 := hG6.old hO7 (by omega)
  have o7 := o6.trans hO7
  simp -implicitDefEqProofs (disch := (first | omega | (simp only [go_sem] <;> omega) | fail)) only [go_sem, Nat.reduceEqDiff, ↓reduceIte, Nat.reduceAdd, Nat.reduceLT, Nat.reduceLeDiff, Nat.reduceSub, Nat.reduceMul, Int.reduceLT, Int.reduceLE, Int.reduceToNat, Int.reduceNeg, Int.reduceEq, Int.reduceAdd, Int.reduceSub, Int.reduceMul, reduceCtorEq]
  refine callF.plain (eqG_ok o hsm _ _ hG7 _ ?_)
  simp -implicitDefEqProofs (disch := (first | omega | (simp only [go_sem] <;> omega) | fail)) only [go_sem, Nat.reduceEqDiff, ↓reduceIte, Nat.reduceAdd, Nat.reduceLT, Nat.reduceLeDiff, Nat.reduceSub, Nat.reduceMul, Int.reduceLT, Int.reduceLE, Int.reduceToNat, Int.reduceNeg, Int.reduceEq, Int.reduceAdd, Int.reduceSub, Int.reduceMul, reduceCtorEq, hbb]
  refine callF.plain (heldG_ok o hsm 1 (by omega) (by omega) _ _ hG67 _ ?_)
  simp -implicitDefEqProofs (disch := (first | omega | (simp only [go_sem] <;> omega) | fail)) only [go_sem, Nat.reduceEqDiff, ↓reduceIte, Nat.reduceAdd, Nat.reduceLT, Nat.reduceLeDiff, Nat.reduceSub, Nat.reduceMul, Int.reduceLT, Int.reduceLE, Int.reduceToNat, Int.reduceNeg, Int.reduceEq, Int.reduceAdd, Int.reduceSub, Int.reduceMul, reduceCtorEq, hk6', o7]
  exact h
end Go.Proofs.Qqz
