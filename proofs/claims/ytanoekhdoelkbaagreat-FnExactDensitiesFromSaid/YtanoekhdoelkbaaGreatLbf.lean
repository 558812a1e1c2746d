/- The law of DensitiesFrom, as a contract. -/
import Derived.Test.YtanoekhdoelkbaaGreatOwg
set_option linter.unusedSimpArgs false
set_option linter.unusedVariables false
namespace Go.Proofs.Qqz
open Go

set_option maxRecDepth 100000 in
set_option maxHeartbeats 1000000 in
theorem lawDensitiesFrom_ok (v : SV) (q : List RV) (hv : v.big) (hq : bigQ q) (e : Env) (σ : St) (K : KT) (h : K (.lit (.bool true)) e σ) :
    ACall Tryz.prog 7 [structV v, sl ratRow q] e σ K := by
  unfold structV
  refine ACall.pureW Tryz.func7 rfl Tryz.ntmps7 Tryz.results7 rfl rfl rfl ?_
  simp -implicitDefEqProofs (disch := (first | omega | (simp only [go_sem] <;> omega) | fail)) only [go_sem, simprocAttr]
  refine callF.plain (szStruct_ok v hv 1048576 (by omega) (by omega) _ _ _ fun r q0 q1 q2 => ?_)
  by_cases hr : r < 0
  · simp -implicitDefEqProofs (disch := (first | omega | (simp only [go_sem] <;> omega) | fail)) only [go_sem, simprocAttr, hr]
    exact h
  have sv := q2 (by omega)
  simp -implicitDefEqProofs (disch := (first | omega | (simp only [go_sem] <;> omega) | fail)) only [go_sem, simprocAttr, hr]
  refine callF.plain (szRats_ok q hq r (by omega) (by omega) _ _ _ fun r2 p0 p1 p2 => ?_)
  by_cases hr2 : r2 < 0
  · simp -implicitDefEqProofs (disch := (first | omega | (simp only [go_sem] <;> omega) | fail)) only [go_sem, simprocAttr, hr2]
    exact h
  have sq : smallQ q := p2 (by omega)
  have sl1 := sv.lens
  have hql := sq.1
  have hjl := sv.1.1
  simp -implicitDefEqProofs (disch := (first | omega | (simp only [go_sem] <;> omega) | fail)) only [go_sem, simprocAttr, hr2]
  refine callF.plain (toStruct_ok v sl1.1 sl1.2 _ _ _ ?_)
  unfold structV
  simp -implicitDefEqProofs (disch := (first | omega | (simp only [go_sem] <;> omega) | fail)) only [go_sem, simprocAttr]
  refine callF.plain (toRats_ok q (by omega) sq.pre _ _ _ ?_)
  simp -implicitDefEqProofs (disch := (first | omega | (simp only [go_sem] <;> omega) | fail)) only [go_sem, simprocAttr]
  refine callF.plain (sdensFrom_ok v q sv.names (by omega) sq.short _ _ _ ?_)
  have hsm := densFromO_small v (by omega) q
  have hown := fun (e : Env) (σ : St) (K : KT) => densFrom_own v q sv.names (by omega) e σ K
  obtain ⟨o, ho⟩ : ∃ o, densFromO v q = o := ⟨_, rfl⟩
  rw [ho] at hsm ⊢
  simp only [ho] at hown
  unfold resV
  simp -implicitDefEqProofs (disch := (first | omega | (simp only [go_sem] <;> omega) | fail)) only [go_sem, simprocAttr]
  refine callF.plain (toStruct_own v sl1.1 sl1.2 _ _ _ fun σ1 a b hO1 hS => ?_)
  have n1 := hO1.le (k := σ.n + 1) (by first | omega | (simp -implicitDefEqProofs (disch := (first | omega | (simp only [go_sem] <;> omega) | fail)) only [go_sem, simprocAttr]; omega))
  have b0 := hO1.get (k := σ.n) (by first | omega | (simp -implicitDefEqProofs (disch := (first | omega | (simp only [go_sem] <;> omega) | fail)) only [go_sem, simprocAttr]; omega)) (by simp -implicitDefEqProofs (disch := (first | omega | (simp only [go_sem] <;> omega) | fail)) only [go_sem, simprocAttr]; rfl)
  have o1 : Old σ σ1 := Old.trans (by simp -implicitDefEqProofs (disch := (first | omega | (simp only [go_sem] <;> omega) | fail)) only [go_sem, simprocAttr]) hO1
  have hSl := hS.low (lo' := σ.n + 1) (by first | omega | (simp -implicitDefEqProofs (disch := (first | omega | (simp only [go_sem] <;> omega) | fail)) only [go_sem, simprocAttr]; omega))
  clear hO1 hS
  unfold ownS
  simp -implicitDefEqProofs (disch := (first | omega | (simp only [go_sem] <;> omega) | fail)) only [go_sem, simprocAttr]
  refine callF.plain (toRats_own q (by omega) sq.pre _ _ _ fun σ2 k T hO2 hT hQ => ?_)
  have n2 := hO2.le (k := σ1.n + 1) (by first | omega | (simp -implicitDefEqProofs (disch := (first | omega | (simp only [go_sem] <;> omega) | fail)) only [go_sem, simprocAttr]; omega))
  have b2 := hO2.get (k := σ.n) (by first | omega | (simp -implicitDefEqProofs (disch := (first | omega | (simp only [go_sem] <;> omega) | fail)) only [go_sem, simprocAttr]; omega)) (by simp -implicitDefEqProofs (disch := (first | omega | (simp only [go_sem] <;> omega) | fail)) only [go_sem, simprocAttr, b0]; rfl)
  have c2 := hO2.get (k := σ1.n) (by first | omega | (simp -implicitDefEqProofs (disch := (first | omega | (simp only [go_sem] <;> omega) | fail)) only [go_sem, simprocAttr]; omega)) (by simp -implicitDefEqProofs (disch := (first | omega | (simp only [go_sem] <;> omega) | fail)) only [go_sem, simprocAttr]; rfl)
  have o12 : Old σ1 σ2 := Old.trans (by simp -implicitDefEqProofs (disch := (first | omega | (simp only [go_sem] <;> omega) | fail)) only [go_sem, simprocAttr]) hO2
  have hS2 := hSl.old o12
  have o2 := o1.trans o12
  have hQ2 := hQ.low (lo' := σ1.n + 1) (by first | omega | (simp -implicitDefEqProofs (disch := (first | omega | (simp only [go_sem] <;> omega) | fail)) only [go_sem, simprocAttr]; omega))
  have hG1 : GB σ2 (σ1.n + 1) σ2.n (some q) (.os k 0 q.length) := ⟨k, T, rfl, hT, hQ2⟩
  clear hO2 hSl hQ
  simp -implicitDefEqProofs (disch := (first | omega | (simp only [go_sem] <;> omega) | fail)) only [go_sem, simprocAttr, b2, c2]
  refine callF.plain ?_
  refine ACall.lend ?_
  refine ACall.eq_args (l' := [structV v, sl ratRow q]) (by
    show [frz 0 σ2 6 true (ownS v a b), frz 0 σ2 6 true (.os k 0 q.length)] = _
    rw [frz_ownS hS2, frz_Q hQ2 hT]) ?_
  refine hown _ _ _ fun σ3' x hO3 hG => ⟨.tup (by intro y hy; simp at hy; rcases hy with rfl | rfl; exact hG.noPs; exact .lit), fun σ3 g1 g2 g3 => ?_⟩
  have hG3 : GB σ3 σ2.n σ3.n o x := by
    have := hG.congr (σ' := σ3) (by rw [g2]; exact Nat.le_refl _) (fun k hk _ hp => g3 k hk hp)
    rw [← g2] at this
    exact this
  have b3 := g1.get (k := σ.n) (by omega) b2
  have c3 := g1.get (k := σ1.n) (by omega) c2
  have hS3 := hS2.old g1
  have hG13 := hG1.old g1 (Nat.le_refl _)
  have o3 := o2.trans g1
  have n3 := g1.1
  clear g2 g3 hG hO3
  simp -implicitDefEqProofs (disch := (first | omega | (simp only [go_sem] <;> omega) | fail)) only [go_sem, simprocAttr, b3, c3]
  refine callF.plain (eqG_ok o hsm _ _ hG3 _ ?_)
  have hbb : (o.isSome == o.isSome) = true := by simp
  simp -implicitDefEqProofs (disch := (first | omega | (simp only [go_sem] <;> omega) | fail)) only [go_sem, simprocAttr, b3, c3, hbb]
  refine Sat.drawn0 [] mixed (by kernel_rfl) ?_
  simp -implicitDefEqProofs (disch := (first | omega | (simp only [go_sem] <;> omega) | fail)) only [go_sem, simprocAttr, b3, c3]
  refine exQ.intro (toStruct_ok v sl1.1 sl1.2 _ _ _ ⟨rfl, rfl⟩) ?_
  try simp -implicitDefEqProofs (disch := (first | omega | (simp only [go_sem] <;> omega) | fail)) only [go_sem, simprocAttr]
  refine exQ.intro (eqStructG_ok v sl1.1 sl1.2 _ _ hS3 _ ⟨rfl, rfl⟩) ?_
  simp -implicitDefEqProofs (disch := (first | omega | (simp only [go_sem] <;> omega) | fail)) only [go_sem, simprocAttr]
  refine callF.plain (toRats_ok q (by omega) sq.pre _ _ _ ?_)
  simp -implicitDefEqProofs (disch := (first | omega | (simp only [go_sem] <;> omega) | fail)) only [go_sem, simprocAttr]
  have hsq : smallB (resQ (some q)) := ⟨by show q.length ≤ _; omega, sq.pre⟩
  refine callF.plain (eqG_ok (some q) hsq _ _ hG13 _ ?_)
  simp -implicitDefEqProofs (disch := (first | omega | (simp only [go_sem] <;> omega) | fail)) only [go_sem, simprocAttr, b3, c3]
  refine callF.plain (markStruct_own v sl1.1 sl1.2 1 (by omega) (by omega) (σ.n + 1) σ1.n a b _ _ hS3 _ fun σ4 m1 m2 => ?_)
  have b4 := (m2 σ.n (by omega) (by omega)).trans b3
  have hG4 : GB σ4 σ2.n σ3.n o x := hG3.congr m1 fun k h1 h2 _ => m2 k h2 (by omega)
  have hG14 : GB σ4 (σ1.n + 1) σ2.n (some q) (.os k 0 q.length) := hG13.congr m1 fun k h1 h2 _ => m2 k (by omega) (by omega)
  have hn3 := o3.1
  have o4 : Old σ σ4 := ⟨by omega, fun k hk => (m2 k (by omega) (by omega)).trans (o3.2 k hk)⟩
  clear m2 hG3 hG13 hS3 hS2
  simp -implicitDefEqProofs (disch := (first | omega | (simp only [go_sem] <;> omega) | fail)) only [go_sem, simprocAttr, b4]
  refine callF.plain (markG_ok (some q) hsq _ (by omega) (by show _ + 4000001 * ((q.length : Nat) : Int) ≤ _; omega) _ _ hG14 _ fun σ5 p1 p2 _ => ?_)
  have b5 := (p2 σ.n (by omega)).trans b4
  have hG5 : GB σ5 σ2.n σ3.n o x := hG4.congr (by omega) fun k h1 h2 _ => p2 k (by omega)
  have o5 : Old σ σ5 := ⟨by omega, fun k hk => (p2 k (by omega)).trans (o4.2 k hk)⟩
  clear p2 hG4 hG14
  have hk5 := kAt_pos (k := 1 + 4 * (v.joints.length : Int) + 3 * v.members.length) (by omega) (resQ (some q)) (resQ (some q)).length
  have hk5' := eq_false (Int.not_lt.2 hk5)
  simp -implicitDefEqProofs (disch := (first | omega | (simp only [go_sem] <;> omega) | fail)) only [go_sem, simprocAttr, b5, hk5']
  refine callF.plain (eqG_ok o hsm _ _ hG5 _ ?_)
  simp -implicitDefEqProofs (disch := (first | omega | (simp only [go_sem] <;> omega) | fail)) only [go_sem, simprocAttr, b5, hbb]
  have hol : (resQ o).length ≤ 2000000 := hsm.1
  refine callF.plain (markG_ok o hsm 1 (by omega) (by omega) _ _ hG5 _ fun σ6 p3 p4 hG6 => ?_)
  have b6 := (p4 σ.n (by omega)).trans b5
  have o6 : Old σ σ6 := ⟨by omega, fun k hk => (p4 k (by omega)).trans (o5.2 k hk)⟩
  clear p4 hG5
  simp -implicitDefEqProofs (disch := (first | omega | (simp only [go_sem] <;> omega) | fail)) only [go_sem, simprocAttr, b6]
  refine callF.plain (heldG_ok o hsm 1 (by omega) (by omega) _ _ hG6 _ ?_)
  have hk6 := kAt_pos (k := 1) (by omega) (resQ o) (resQ o).length
  have hk6' := eq_false (Int.not_lt.2 hk6)
  simp -implicitDefEqProofs (disch := (first | omega | (simp only [go_sem] <;> omega) | fail)) only [go_sem, simprocAttr, b6, hk6']
  refine callF.plain (toStruct_ok v sl1.1 sl1.2 _ _ _ ?_)
  unfold structV
  simp -implicitDefEqProofs (disch := (first | omega | (simp only [go_sem] <;> omega) | fail)) only [go_sem, simprocAttr]
  refine callF.plain (toRats_ok q (by omega) sq.pre _ _ _ ?_)
  simp -implicitDefEqProofs (disch := (first | omega | (simp only [go_sem] <;> omega) | fail)) only [go_sem, simprocAttr]
  refine callF.plain (hown _ _ _ fun σ7 y hO7 hG7 => ?_)
  have hG67 := hG6.old hO7 (by omega)
  have o7 := o6.trans hO7
  simp -implicitDefEqProofs (disch := (first | omega | (simp only [go_sem] <;> omega) | fail)) only [go_sem, simprocAttr]
  refine callF.plain (eqG_ok o hsm _ _ hG7 _ ?_)
  simp -implicitDefEqProofs (disch := (first | omega | (simp only [go_sem] <;> omega) | fail)) only [go_sem, simprocAttr, hbb]
  refine callF.plain (heldG_ok o hsm 1 (by omega) (by omega) _ _ hG67 _ ?_)
  simp -implicitDefEqProofs (disch := (first | omega | (simp only [go_sem] <;> omega) | fail)) only [go_sem, simprocAttr, hk6', o7]
  exact h
end Go.Proofs.Qqz
