/- The law of StretchOf, as a contract. -/
import Derived.Test.YtanoekhdoelkbaaGreatOwh
set_option linter.unusedSimpArgs false
set_option linter.unusedVariables false
namespace Go.Proofs.Qqz
open Go

set_option maxRecDepth 100000 in
set_option maxHeartbeats 1000000 in
theorem lawStretchOf_ok (v : SV) (i : Int) (q : List RV) (hv : v.big) (hq : bigQ q) (e : Env) (σ : St) (K : KT) (h : K (.lit (.bool true)) e σ) :
    ACall Tryz.prog 9 [structV v, .lit (.int .i64 i), sl ratRow q] e σ K := by
  unfold structV
  refine ACall.pureW Tryz.func9 rfl Tryz.ntmps9 Tryz.results9 rfl rfl rfl ?_
  simp -implicitDefEqProofs (disch := (first | omega | (simp only [go_sem] <;> omega) | fail)) only [go_sem, simprocAttr]
  refine callF.plain (szStruct_ok v hv 1048576 (by omega) (by omega) _ _ _ fun r q0 q1 q2 => ?_)
  by_cases hr : r < 0
  · simp -implicitDefEqProofs (disch := (first | omega | (simp only [go_sem] <;> omega) | fail)) only [go_sem, simprocAttr, hr]
    exact h
  have sv := q2 (by omega)
  simp -implicitDefEqProofs (disch := (first | omega | (simp only [go_sem] <;> omega) | fail)) only [go_sem, simprocAttr, hr]
  refine callF.plain (szRats_ok q hq r (by omega) (by omega) _ _ _ fun r2 p0 p1 p2 => ?_)
  by_cases hr2 : r2 < 0
  · simp -implicitDefEqProofs (disch := (first | omega | (simp only [go_sem] <;> omega) | fail)) only [go_sem, simprocAttr, hr2]
    exact h
  have sq : smallQ q := p2 (by omega)
  have sl1 := sv.lens
  have hql := sq.1
  have hjl := sv.1.1
  simp -implicitDefEqProofs (disch := (first | omega | (simp only [go_sem] <;> omega) | fail)) only [go_sem, simprocAttr, hr2]
  refine callF.plain (toStruct_ok v sl1.1 sl1.2 _ _ _ ?_)
  unfold structV
  simp -implicitDefEqProofs (disch := (first | omega | (simp only [go_sem] <;> omega) | fail)) only [go_sem, simprocAttr]
  refine callF.plain (toRats_ok q (by omega) sq.pre _ _ _ ?_)
  simp -implicitDefEqProofs (disch := (first | omega | (simp only [go_sem] <;> omega) | fail)) only [go_sem, simprocAttr]
  refine callF.plain (sstretch_ok v q i sv.names (by omega) (by omega) sq.short _ _ _ ?_)
  rw [strF_eq]
  have hsm := ratRow_pre (strF_ok v q i)
  have hown := fun (e : Env) (σ : St) (K : KT) => stretchOf_own v q i sv.names (by omega) e σ K
  obtain ⟨o, ho⟩ : ∃ o, strF v q i = o := ⟨_, rfl⟩
  rw [ho] at hsm ⊢
  simp only [ho] at hown
  obtain ⟨r0, hr0⟩ : ∃ r0, o.rv = r0 := ⟨_, rfl⟩
  obtain ⟨B, hB⟩ : ∃ B, o.isSome = B := ⟨_, rfl⟩
  rw [hr0] at hsm ⊢
  rw [hB]
  simp only [hr0, hB] at hown
  have hrv : ratV r0 = .agg (ratRow r0) := rfl
  rw [hrv]
  unfold ratRow
  simp -implicitDefEqProofs (disch := (first | omega | (simp only [go_sem] <;> omega) | fail)) only [go_sem, simprocAttr]
  refine callF.plain (toStruct_own v sl1.1 sl1.2 _ _ _ fun σ1 a b hO1 hS => ?_)
  have n1 := hO1.le (k := σ.n + 1 + 1) (by first | omega | (simp -implicitDefEqProofs (disch := (first | omega | (simp only [go_sem] <;> omega) | fail)) only [go_sem, simprocAttr]; omega))
  have b0 := hO1.get (k := σ.n) (by first | omega | (simp -implicitDefEqProofs (disch := (first | omega | (simp only [go_sem] <;> omega) | fail)) only [go_sem, simprocAttr]; omega)) (by simp -implicitDefEqProofs (disch := (first | omega | (simp only [go_sem] <;> omega) | fail)) only [go_sem, simprocAttr]; rfl)
  have b1 := hO1.get (k := σ.n + 1) (by first | omega | (simp -implicitDefEqProofs (disch := (first | omega | (simp only [go_sem] <;> omega) | fail)) only [go_sem, simprocAttr]; omega)) (by simp -implicitDefEqProofs (disch := (first | omega | (simp only [go_sem] <;> omega) | fail)) only [go_sem, simprocAttr]; rfl)
  have o1 : Old σ σ1 := Old.trans (by simp -implicitDefEqProofs (disch := (first | omega | (simp only [go_sem] <;> omega) | fail)) only [go_sem, simprocAttr]) hO1
  have hSl := hS.low (lo' := σ.n + 1 + 1) (by first | omega | (simp -implicitDefEqProofs (disch := (first | omega | (simp only [go_sem] <;> omega) | fail)) only [go_sem, simprocAttr]; omega))
  clear hO1 hS
  unfold ownS
  simp -implicitDefEqProofs (disch := (first | omega | (simp only [go_sem] <;> omega) | fail)) only [go_sem, simprocAttr]
  refine callF.plain (toRats_own q (by omega) sq.pre _ _ _ fun σ2 k T hO2 hT hQ => ?_)
  have n2 := hO2.le (k := σ1.n + 1) (by first | omega | (simp -implicitDefEqProofs (disch := (first | omega | (simp only [go_sem] <;> omega) | fail)) only [go_sem, simprocAttr]; omega))
  have b2 := hO2.get (k := σ.n) (by first | omega | (simp -implicitDefEqProofs (disch := (first | omega | (simp only [go_sem] <;> omega) | fail)) only [go_sem, simprocAttr]; omega)) (by simp -implicitDefEqProofs (disch := (first | omega | (simp only [go_sem] <;> omega) | fail)) only [go_sem, simprocAttr, b0]; rfl)
  have c2 := hO2.get (k := σ1.n) (by first | omega | (simp -implicitDefEqProofs (disch := (first | omega | (simp only [go_sem] <;> omega) | fail)) only [go_sem, simprocAttr]; omega)) (by simp -implicitDefEqProofs (disch := (first | omega | (simp only [go_sem] <;> omega) | fail)) only [go_sem, simprocAttr]; rfl)
  have d2 := hO2.get (k := σ.n + 1) (by first | omega | (simp -implicitDefEqProofs (disch := (first | omega | (simp only [go_sem] <;> omega) | fail)) only [go_sem, simprocAttr]; omega)) (by simp -implicitDefEqProofs (disch := (first | omega | (simp only [go_sem] <;> omega) | fail)) only [go_sem, simprocAttr, b1]; rfl)
  have o12 : Old σ1 σ2 := Old.trans (by simp -implicitDefEqProofs (disch := (first | omega | (simp only [go_sem] <;> omega) | fail)) only [go_sem, simprocAttr]) hO2
  have hS2 := hSl.old o12
  have o2 := o1.trans o12
  have hQ2 := hQ.low (lo' := σ1.n + 1) (by first | omega | (simp -implicitDefEqProofs (disch := (first | omega | (simp only [go_sem] <;> omega) | fail)) only [go_sem, simprocAttr]; omega))
  have hG1 : GB σ2 (σ1.n + 1) σ2.n (some q) (.os k 0 q.length) := ⟨k, T, rfl, hT, hQ2⟩
  clear hO2 hSl hQ
  simp -implicitDefEqProofs (disch := (first | omega | (simp only [go_sem] <;> omega) | fail)) only [go_sem, simprocAttr, b2, c2, d2]
  refine callF.plain ?_
  refine ACall.lend ?_
  refine ACall.eq_args (l' := [structV v, .lit (.int .i64 i), sl ratRow q]) (by
    show [frz 0 σ2 6 true (ownS v a b), _, frz 0 σ2 6 true (.os k 0 q.length)] = _
    rw [frz_ownS hS2, frz_Q hQ2 hT]; rfl) ?_
  refine hown _ _ _ fun σ3' x hO3 hG => ⟨.tup (by intro y hy; simp at hy; rcases hy with rfl | rfl; exact hG.noPs; exact .lit), fun σ3 g1 g2 g3 => ?_⟩
  have hG3 : RB σ3 σ2.n σ3.n r0 x := by
    have := hG.congr (σ' := σ3) (by rw [g2]; exact Nat.le_refl _) (fun k hk _ hp => g3 k hk hp)
    rw [← g2] at this
    exact this
  have b3 := g1.get (k := σ.n) (by omega) b2
  have c3 := g1.get (k := σ1.n) (by omega) c2
  have d3 := g1.get (k := σ.n + 1) (by omega) d2
  have hS3 := hS2.old g1
  have hG13 := hG1.old g1 (Nat.le_refl _)
  have o3 := o2.trans g1
  have n3 := g1.1
  clear g2 g3 hG hO3
  have hbb : (B == B) = true := by simp
  -- the value as the variable holds it
  obtain ⟨xr, hx1, hx2, hx3, hx4⟩ : ∃ xr : List AV, x = .agg xr ∧ avCells x = some xr ∧ xr.length = 3 ∧ (∀ a ∈ xr, a.isCell = true) := by
    rcases hG3 with ⟨_, rfl⟩ | ⟨m, d, rfl, _⟩
    · exact ⟨_, rfl, rfl, rfl, by intro a ha; simp at ha; rcases ha with rfl | rfl <;> rfl⟩
    · exact ⟨_, rfl, rfl, rfl, by intro a ha; simp [qRow] at ha; rcases ha with rfl | rfl | rfl <;> rfl⟩
  obtain ⟨y0, y1, y2, rfl⟩ : ∃ y0 y1 y2, xr = [y0, y1, y2] := by
    match xr, hx3 with
    | [y0, y1, y2], _ => exact ⟨_, _, _, rfl⟩
  subst hx1
  have hc0 : y0.isCell = true := hx4 _ (by simp)
  have hc1 : y1.isCell = true := hx4 _ (by simp)
  have hc2 : y2.isCell = true := hx4 _ (by simp)
  simp -implicitDefEqProofs (disch := (first | omega | (simp only [go_sem] <;> omega) | fail)) only [go_sem, simprocAttr, b3, c3, d3, hc0, hc1, hc2]
  obtain ⟨x, hx⟩ : ∃ x, x = AV.agg [y0, y1, y2] := ⟨_, rfl⟩
  rw [← hx] at hG3
  have hnx : AV.agg [nlV 2 y0, nlV 2 y1, nlV 2 y2] = nlV 3 x := by rw [hx]; rfl
  have hrx : ratV r0 = AV.agg [.lit (.bool r0.neg), sl intRow r0.mag, sl intRow r0.den] := rfl
  refine callF.plain (ACall.eq_args (l' := [nlV 3 x, ratV r0]) (by rw [hx]; simp -implicitDefEqProofs (disch := (first | omega | (simp only [go_sem] <;> omega) | fail)) only [go_sem, simprocAttr]; rfl) (eqR_ok r0 hsm _ _ (lo := σ2.n) (hi := σ3.n) (hG3.old (by simp -implicitDefEqProofs (disch := (first | omega | (simp only [go_sem] <;> omega) | fail)) only [go_sem, simprocAttr]) (Nat.le_refl _)) _ ?_))
  obtain ⟨σa, hσa⟩ : ∃ σa, σa = ((σ3.new (Blk.deep 3 [[AV.lit (Value.bool false), AV.lit (Value.slice none 0 0), AV.lit (Value.slice none 0 0)]])).put σ3.n (Blk.deep 3 [[y0, y1, y2]])) := ⟨_, rfl⟩
  have ga : Old σ3 σa := by rw [hσa]; simp -implicitDefEqProofs (disch := (first | omega | (simp only [go_sem] <;> omega) | fail)) only [go_sem, simprocAttr]
  have na : σa.n = σ3.n + 1 := by rw [hσa]; simp -implicitDefEqProofs (disch := (first | omega | (simp only [go_sem] <;> omega) | fail)) only [go_sem, simprocAttr]
  have xa : σa.h σ3.n = .deep 3 [[y0, y1, y2]] := by rw [hσa]; simp -implicitDefEqProofs (disch := (first | omega | (simp only [go_sem] <;> omega) | fail)) only [go_sem, simprocAttr]
  rw [← hσa]
  clear hσa
  have ba := ga.get (k := σ.n) (by omega) b3
  have ca := ga.get (k := σ1.n) (by omega) c3
  have da := ga.get (k := σ.n + 1) (by omega) d3
  have hSa := hS3.old ga
  have hG1a := hG13.old ga n3
  have hRa := hG3.old ga (Nat.le_refl _)
  have oa := o3.trans ga
  clear b3 c3 d3 hS3 hG13 hG3 ga
  simp -implicitDefEqProofs (disch := (first | omega | (simp only [go_sem] <;> omega) | fail)) only [go_sem, simprocAttr, ba, ca, da, xa, hbb]
  refine Sat.drawn0 [] mixed (by kernel_rfl) ?_
  simp -implicitDefEqProofs (disch := (first | omega | (simp only [go_sem] <;> omega) | fail)) only [go_sem, simprocAttr, ba, ca, da, xa]
  refine exQ.intro (toStruct_ok v sl1.1 sl1.2 _ _ _ ⟨rfl, rfl⟩) ?_
  try simp -implicitDefEqProofs (disch := (first | omega | (simp only [go_sem] <;> omega) | fail)) only [go_sem, simprocAttr]
  refine exQ.intro (eqStructG_ok v sl1.1 sl1.2 _ _ hSa _ ⟨rfl, rfl⟩) ?_
  simp -implicitDefEqProofs (disch := (first | omega | (simp only [go_sem] <;> omega) | fail)) only [go_sem, simprocAttr]
  refine callF.plain (toRats_ok q (by omega) sq.pre _ _ _ ?_)
  simp -implicitDefEqProofs (disch := (first | omega | (simp only [go_sem] <;> omega) | fail)) only [go_sem, simprocAttr]
  have hsq : smallB (resQ (some q)) := ⟨by show q.length ≤ _; omega, sq.pre⟩
  refine callF.plain (eqG_ok (some q) hsq _ _ hG1a _ ?_)
  simp -implicitDefEqProofs (disch := (first | omega | (simp only [go_sem] <;> omega) | fail)) only [go_sem, simprocAttr, ba, ca]
  refine callF.plain (markStruct_own v sl1.1 sl1.2 1 (by omega) (by omega) (σ.n + 1 + 1) σ1.n a b _ _ hSa _ fun σ4 m1 m2 => ?_)
  have b4 := (m2 σ.n (by omega) (by omega)).trans ba
  have d4 := (m2 (σ.n + 1) (by omega) (by omega)).trans da
  have x4 := (m2 σ3.n (by omega) (by omega)).trans xa
  have hG4 : RB σ4 σ2.n σ3.n r0 x := hRa.congr m1 fun k h1 h2 _ => m2 k (by omega) (by omega)
  have hG14 : GB σ4 (σ1.n + 1) σ2.n (some q) (.os k 0 q.length) := hG1a.congr m1 fun k h1 h2 _ => m2 k (by omega) (by omega)
  have hn3 := o3.1
  have o4 : Old σ σ4 := ⟨by omega, fun k hk => (m2 k (by omega) (by omega)).trans (oa.2 k hk)⟩
  clear m2 hRa hG1a hSa hS2
  simp -implicitDefEqProofs (disch := (first | omega | (simp only [go_sem] <;> omega) | fail)) only [go_sem, simprocAttr, b4, d4, x4]
  refine callF.plain (markG_ok (some q) hsq _ (by omega) (by show _ + 4000001 * ((q.length : Nat) : Int) ≤ _; omega) _ _ hG14 _ fun σ5 p1 p2 _ => ?_)
  have b5 := (p2 σ.n (by omega)).trans b4
  have d5 := (p2 (σ.n + 1) (by omega)).trans d4
  have x5 := (p2 σ3.n (by omega)).trans x4
  have hG5 : RB σ5 σ2.n σ3.n r0 x := hG4.congr (by omega) fun k h1 h2 _ => p2 k (by omega)
  have o5 : Old σ σ5 := ⟨by omega, fun k hk => (p2 k (by omega)).trans (o4.2 k hk)⟩
  clear p2 hG4 hG14
  have hk5 := kAt_pos (k := 1 + 4 * (v.joints.length : Int) + 3 * v.members.length) (by omega) (resQ (some q)) (resQ (some q)).length
  have hk5' := eq_false (Int.not_lt.2 hk5)
  simp -implicitDefEqProofs (disch := (first | omega | (simp only [go_sem] <;> omega) | fail)) only [go_sem, simprocAttr, b5, d5, x5, hk5', hc0, hc1, hc2]
  refine callF.plain (ACall.eq_args (l' := [nlV 3 x, ratV r0]) (by rw [hx]; simp -implicitDefEqProofs (disch := (first | omega | (simp only [go_sem] <;> omega) | fail)) only [go_sem, simprocAttr]; rfl) (eqR_ok r0 hsm _ _ hG5 _ ?_))
  simp -implicitDefEqProofs (disch := (first | omega | (simp only [go_sem] <;> omega) | fail)) only [go_sem, simprocAttr, b5, d5, x5, hbb]
  have hpre := hsm
  unfold toRat_pre at hpre
  refine callF.plain (ACall.eq_args (l' := [nlV 3 x, .lit (.int .i64 1)]) (by rw [hx]; simp -implicitDefEqProofs (disch := (first | omega | (simp only [go_sem] <;> omega) | fail)) only [go_sem, simprocAttr]) (markR_ok r0 hsm 1 (by omega) (by omega) _ _ hG5 _ fun σ6 p3 p4 hG6 => ?_))
  have b6 := (p4 σ.n (by omega) (by omega)).trans b5
  have d6 := (p4 (σ.n + 1) (by omega) (by omega)).trans d5
  have x6 := (p4 σ3.n (by omega) (by omega)).trans x5
  have o6 : Old σ σ6 := ⟨by omega, fun k hk => (p4 k (by omega) (by omega)).trans (o5.2 k hk)⟩
  clear p4 hG5
  simp -implicitDefEqProofs (disch := (first | omega | (simp only [go_sem] <;> omega) | fail)) only [go_sem, simprocAttr, b6, d6, x6]
  refine callF.plain (ACall.eq_args (l' := [nlV 3 x, .lit (.int .i64 1)]) (by rw [hx]; simp -implicitDefEqProofs (disch := (first | omega | (simp only [go_sem] <;> omega) | fail)) only [go_sem, simprocAttr]) (heldR_ok r0 hsm 1 (by omega) (by omega) _ _ hG6 _ ?_))
  have hk6 : 0 ≤ kR 1 r0 := by unfold kR; omega
  have hk6' := eq_false (Int.not_lt.2 hk6)
  simp -implicitDefEqProofs (disch := (first | omega | (simp only [go_sem] <;> omega) | fail)) only [go_sem, simprocAttr, b6, d6, x6, hk6']
  refine callF.plain (toStruct_ok v sl1.1 sl1.2 _ _ _ ?_)
  unfold structV
  simp -implicitDefEqProofs (disch := (first | omega | (simp only [go_sem] <;> omega) | fail)) only [go_sem, simprocAttr]
  refine callF.plain (toRats_ok q (by omega) sq.pre _ _ _ ?_)
  simp -implicitDefEqProofs (disch := (first | omega | (simp only [go_sem] <;> omega) | fail)) only [go_sem, simprocAttr]
  refine callF.plain (hown _ _ _ fun σ7 y hO7 hG7 => ?_)
  have d7 := hO7.get (k := σ.n + 1) (by omega) d6
  have x7 := hO7.get (k := σ3.n) (by omega) x6
  have hG67 := hG6.old hO7 (by omega)
  have o7 := o6.trans hO7
  have n7 := hO7.1
  clear hG6 hO7
  obtain ⟨yr, hy1, hy2, hy3, hy4⟩ : ∃ xr : List AV, y = .agg xr ∧ avCells y = some xr ∧ xr.length = 3 ∧ (∀ a ∈ xr, a.isCell = true) := by
    rcases hG7 with ⟨_, rfl⟩ | ⟨m, d, rfl, _⟩
    · exact ⟨_, rfl, rfl, rfl, by intro a ha; simp at ha; rcases ha with rfl | rfl <;> rfl⟩
    · exact ⟨_, rfl, rfl, rfl, by intro a ha; simp [qRow] at ha; rcases ha with rfl | rfl | rfl <;> rfl⟩
  obtain ⟨z0, z1, z2, rfl⟩ : ∃ y0 y1 y2, yr = [y0, y1, y2] := by
    match yr, hy3 with
    | [y0, y1, y2], _ => exact ⟨_, _, _, rfl⟩
  subst hy1
  have gc0 : z0.isCell = true := hy4 _ (by simp)
  have gc1 : z1.isCell = true := hy4 _ (by simp)
  have gc2 : z2.isCell = true := hy4 _ (by simp)
  simp -implicitDefEqProofs (disch := (first | omega | (simp only [go_sem] <;> omega) | fail)) only [go_sem, simprocAttr, d7, x7, gc0, gc1, gc2]
  refine callF.plain (ACall.eq_args (l' := [nlV 3 (.agg [z0, z1, z2]), ratV r0]) (by simp -implicitDefEqProofs (disch := (first | omega | (simp only [go_sem] <;> omega) | fail)) only [go_sem, simprocAttr]; rfl) (eqR_ok r0 hsm _ _ (hG7.old (by simp -implicitDefEqProofs (disch := (first | omega | (simp only [go_sem] <;> omega) | fail)) only [go_sem, simprocAttr]) (Nat.le_refl _)) _ ?_))
  simp -implicitDefEqProofs (disch := (first | omega | (simp only [go_sem] <;> omega) | fail)) only [go_sem, simprocAttr, hbb, x7]
  refine callF.plain (ACall.eq_args (l' := [nlV 3 x, .lit (.int .i64 1)]) (by rw [hx]; simp -implicitDefEqProofs (disch := (first | omega | (simp only [go_sem] <;> omega) | fail)) only [go_sem, simprocAttr]) (heldR_ok r0 hsm 1 (by omega) (by omega) _ _ (hG67.old (by simp -implicitDefEqProofs (disch := (first | omega | (simp only [go_sem] <;> omega) | fail)) only [go_sem, simprocAttr]) (by omega)) _ ?_))
  simp -implicitDefEqProofs (disch := (first | omega | (simp only [go_sem] <;> omega) | fail)) only [go_sem, simprocAttr, hk6', o7]
  exact h
end Go.Proofs.Qqz
