/- Contracts: the reference's fractions. -/
import Derived.Test.YtanoekhdoelkbaaGreatKg
set_option linter.unusedSimpArgs false
set_option linter.unusedVariables false
namespace Go.Proofs.Qqz
open Go

theorem lowN_sgn (neg : Bool) (m d : Nat) : lowN (sgn neg m) d = sgn neg (m / Nat.gcd m d) := by
  unfold lowN
  rw [sgn_natAbs, sgn_neg]
  cases neg with
  | false => rfl
  | true =>
    by_cases h : 0 < m
    · simp [h]
    · have : m = 0 := by omega
      subst this
      simp [sgn]
theorem lowD_sgn (neg : Bool) (m d : Nat) : lowD (sgn neg m) d = d / Nat.gcd m d := by
  unfold lowD; rw [sgn_natAbs]

theorem limbs_is_one (d : Nat) : decide (limbs d = [1]) = decide (d = 1) := by
  apply decide_eq_decide.2
  constructor
  · intro h; exact limbs_inj (h.trans limbs_1.symm)
  · rintro rfl; exact limbs_1

set_option maxRecDepth 100000 in
set_option maxHeartbeats 1000000 in
theorem slow_ok (neg : Bool) (m d : Nat) (hd : 0 < d) (hlm : (limbs m).length ≤ 59) (hld : (limbs d).length ≤ 59) (e : Env) (σ : St) (K : KT) (h : K (ratV (lowF (sgn neg m) d).rv) e σ) : ACall Tryz.prog 133 [.lit (.bool neg), ints (limbs m), ints (limbs d)] e σ K := by
  refine ACall.pureW Tryz.func133 rfl Tryz.ntmps133 Tryz.results133 rfl rfl rfl ?_
  unfold lowF at h
  rw [lowN_sgn, lowD_sgn] at h
  have hg0 := Nat.gcd_pos_of_pos_right m hd
  have hd0 : ¬ ((limbs d).length : Int) = 0 := by have := limbs_len_pos hd; omega
  simp -implicitDefEqProofs (disch := (first | omega | (simp only [go_sem] <;> omega) | fail)) only [go_sem, simprocAttr]
  refine callF.plain (strim_ok _ (by omega) _ _ _ ?_)
  rw [trim_limbs]
  simp -implicitDefEqProofs (disch := (first | omega | (simp only [go_sem] <;> omega) | fail)) only [go_sem, simprocAttr]
  refine callF.plain (strim_ok _ (by omega) _ _ _ ?_)
  rw [trim_limbs]
  simp -implicitDefEqProofs (disch := (first | omega | (simp only [go_sem] <;> omega) | fail)) only [go_sem, simprocAttr, hd0]
  refine callF.plain (sone_ok _ _ _ _ ?_)
  rw [limbs_is_one]
  by_cases h1 : d = 1
  · have hg : Nat.gcd m d = 1 := by rw [h1]; exact Nat.gcd_one_right m
    rw [hg, Nat.div_one, Nat.div_one] at h
    rw [decide_eq_true h1]
    simp -implicitDefEqProofs (disch := (first | omega | (simp only [go_sem] <;> omega) | fail)) only [go_sem, simprocAttr]
    have hlm' : (limbs (m)).length ≤ 59 := len_le (by first | exact Nat.le_refl _ | exact Nat.div_le_self _ _) hlm
    have hld' : (limbs (d)).length ≤ 59 := len_le (by first | exact Nat.le_refl _ | exact Nat.div_le_self _ _) hld
    have htk : (limbs (d)).take (limbs (d)).length = limbs (d) := List.take_of_length_le (Nat.le_refl _)
    by_cases h1 : (limbs (m)).length ≤ 24
    · have h1' : ¬ (24 : Int) < (limbs (m)).length := by omega
      by_cases h2 : (limbs (d)).length ≤ 24
      · have h2' : ¬ (24 : Int) < (limbs (d)).length := by omega
        rw [if_pos (show Fits _ _ from ⟨by rw [sgn_natAbs]; exact h1, h2⟩)] at h
        simp -implicitDefEqProofs (disch := (first | omega | (simp only [go_sem] <;> omega) | fail)) only [go_sem, simprocAttr, h1', h2']
        refine callF.plain (smake_ok neg _ (by omega) _ _ _ ?_)
        simp only [Fr.rv, ratV] at h
        unfold bigA
        simp -implicitDefEqProofs (disch := (first | omega | (simp only [go_sem] <;> omega) | fail)) only [go_sem, simprocAttr, cells_ok_ints, htk]
        exact h
      · have h2' : (24 : Int) < (limbs (d)).length := by omega
        rw [if_neg (fun hf : Fits _ _ => h2 hf.2)] at h
        simp -implicitDefEqProofs (disch := (first | omega | (simp only [go_sem] <;> omega) | fail)) only [go_sem, simprocAttr, h1', h2']
        exact h
    · have h1' : (24 : Int) < (limbs (m)).length := by omega
      rw [if_neg (fun hf : Fits _ _ => h1 (by have := hf.1; rwa [sgn_natAbs] at this))] at h
      simp -implicitDefEqProofs (disch := (first | omega | (simp only [go_sem] <;> omega) | fail)) only [go_sem, simprocAttr, h1']
      exact h
  · rw [decide_eq_false h1]
    simp -implicitDefEqProofs (disch := (first | omega | (simp only [go_sem] <;> omega) | fail)) only [go_sem, simprocAttr]
    refine callF.plain (sgcd_ok m d (by omega) (by omega) _ _ _ ?_)
    simp -implicitDefEqProofs (disch := (first | omega | (simp only [go_sem] <;> omega) | fail)) only [go_sem, simprocAttr]
    refine callF.plain (sone_ok _ _ _ _ ?_)
    rw [limbs_is_one]
    by_cases hg : Nat.gcd m d = 1
    · rw [hg, Nat.div_one, Nat.div_one] at h
      rw [decide_eq_true hg]
      simp -implicitDefEqProofs (disch := (first | omega | (simp only [go_sem] <;> omega) | fail)) only [go_sem, simprocAttr]
      have hlm' : (limbs (m)).length ≤ 59 := len_le (by first | exact Nat.le_refl _ | exact Nat.div_le_self _ _) hlm
      have hld' : (limbs (d)).length ≤ 59 := len_le (by first | exact Nat.le_refl _ | exact Nat.div_le_self _ _) hld
      have htk : (limbs (d)).take (limbs (d)).length = limbs (d) := List.take_of_length_le (Nat.le_refl _)
      by_cases h1 : (limbs (m)).length ≤ 24
      · have h1' : ¬ (24 : Int) < (limbs (m)).length := by omega
        by_cases h2 : (limbs (d)).length ≤ 24
        · have h2' : ¬ (24 : Int) < (limbs (d)).length := by omega
          rw [if_pos (show Fits _ _ from ⟨by rw [sgn_natAbs]; exact h1, h2⟩)] at h
          simp -implicitDefEqProofs (disch := (first | omega | (simp only [go_sem] <;> omega) | fail)) only [go_sem, simprocAttr, h1', h2']
          refine callF.plain (smake_ok neg _ (by omega) _ _ _ ?_)
          simp only [Fr.rv, ratV] at h
          unfold bigA
          simp -implicitDefEqProofs (disch := (first | omega | (simp only [go_sem] <;> omega) | fail)) only [go_sem, simprocAttr, cells_ok_ints, htk]
          exact h
        · have h2' : (24 : Int) < (limbs (d)).length := by omega
          rw [if_neg (fun hf : Fits _ _ => h2 hf.2)] at h
          simp -implicitDefEqProofs (disch := (first | omega | (simp only [go_sem] <;> omega) | fail)) only [go_sem, simprocAttr, h1', h2']
          exact h
      · have h1' : (24 : Int) < (limbs (m)).length := by omega
        rw [if_neg (fun hf : Fits _ _ => h1 (by have := hf.1; rwa [sgn_natAbs] at this))] at h
        simp -implicitDefEqProofs (disch := (first | omega | (simp only [go_sem] <;> omega) | fail)) only [go_sem, simprocAttr, h1']
        exact h
    · rw [decide_eq_false hg]
      simp -implicitDefEqProofs (disch := (first | omega | (simp only [go_sem] <;> omega) | fail)) only [go_sem, simprocAttr]
      have hlg : (limbs (Nat.gcd m d)).length ≤ 59 := len_le (Nat.gcd_le_right _ hd) hld
      refine callF.plain (sdiv_ok m _ hg0 (by omega) (by omega) _ _ _ ?_)
      simp -implicitDefEqProofs (disch := (first | omega | (simp only [go_sem] <;> omega) | fail)) only [go_sem, simprocAttr]
      refine callF.plain (sdiv_ok d _ hg0 (by omega) (by omega) _ _ _ ?_)
      simp -implicitDefEqProofs (disch := (first | omega | (simp only [go_sem] <;> omega) | fail)) only [go_sem, simprocAttr]
      have hlm' : (limbs (m / Nat.gcd m d)).length ≤ 59 := len_le (by first | exact Nat.le_refl _ | exact Nat.div_le_self _ _) hlm
      have hld' : (limbs (d / Nat.gcd m d)).length ≤ 59 := len_le (by first | exact Nat.le_refl _ | exact Nat.div_le_self _ _) hld
      have htk : (limbs (d / Nat.gcd m d)).take (limbs (d / Nat.gcd m d)).length = limbs (d / Nat.gcd m d) := List.take_of_length_le (Nat.le_refl _)
      by_cases h1 : (limbs (m / Nat.gcd m d)).length ≤ 24
      · have h1' : ¬ (24 : Int) < (limbs (m / Nat.gcd m d)).length := by omega
        by_cases h2 : (limbs (d / Nat.gcd m d)).length ≤ 24
        · have h2' : ¬ (24 : Int) < (limbs (d / Nat.gcd m d)).length := by omega
          rw [if_pos (show Fits _ _ from ⟨by rw [sgn_natAbs]; exact h1, h2⟩)] at h
          simp -implicitDefEqProofs (disch := (first | omega | (simp only [go_sem] <;> omega) | fail)) only [go_sem, simprocAttr, h1', h2']
          refine callF.plain (smake_ok neg _ (by omega) _ _ _ ?_)
          simp only [Fr.rv, ratV] at h
          unfold bigA
          simp -implicitDefEqProofs (disch := (first | omega | (simp only [go_sem] <;> omega) | fail)) only [go_sem, simprocAttr, cells_ok_ints, htk]
          exact h
        · have h2' : (24 : Int) < (limbs (d / Nat.gcd m d)).length := by omega
          rw [if_neg (fun hf : Fits _ _ => h2 hf.2)] at h
          simp -implicitDefEqProofs (disch := (first | omega | (simp only [go_sem] <;> omega) | fail)) only [go_sem, simprocAttr, h1', h2']
          exact h
      · have h1' : (24 : Int) < (limbs (m / Nat.gcd m d)).length := by omega
        rw [if_neg (fun hf : Fits _ _ => h1 (by have := hf.1; rwa [sgn_natAbs] at this))] at h
        simp -implicitDefEqProofs (disch := (first | omega | (simp only [go_sem] <;> omega) | fail)) only [go_sem, simprocAttr, h1']
        exact h

set_option maxRecDepth 100000 in
set_option maxHeartbeats 1000000 in
theorem sratOk_ok (r : RV) (h1 : r.mag.length ≤ 1000000000) (h2 : r.den.length ≤ 1000000000) (e : Env) (σ : St) (K : KT) (h : K (.lit (.bool (ratOkB r.neg r.mag r.den))) e σ) : ACall Tryz.prog 48 [ratV r] e σ K := by
  obtain ⟨neg, mag, den⟩ := r
  simp only [ratV] at *
  refine ACall.pureW Tryz.func48 rfl Tryz.ntmps48 Tryz.results48 rfl rfl rfl ?_
  unfold ratOkB at h
  simp -implicitDefEqProofs (disch := (first | omega | (simp only [go_sem] <;> omega) | fail)) only [go_sem, simprocAttr]
  refine callF.plain (sbigOk_ok neg mag h1 _ _ _ ?_)
  cases hb : bigOkB neg mag with
  | false =>
    rw [hb] at h
    simp -implicitDefEqProofs (disch := (first | omega | (simp only [go_sem] <;> omega) | fail)) only [go_sem, simprocAttr]
    exact h
  | true =>
  simp -implicitDefEqProofs (disch := (first | omega | (simp only [go_sem] <;> omega) | fail)) only [go_sem, simprocAttr]
  refine callF.plain (snatOk_ok den h2 _ _ _ ?_)
  cases hc : natOkB den with
  | false =>
    rw [hb, hc] at h
    simp -implicitDefEqProofs (disch := (first | omega | (simp only [go_sem] <;> omega) | fail)) only [go_sem, simprocAttr]
    exact h
  | true =>
  rw [hb, hc] at h
  by_cases hz : den = []
  · have hz' : (den.length : Int) = 0 := by rw [hz]; rfl
    simp [hz] at h
    simp -implicitDefEqProofs (disch := (first | omega | (simp only [go_sem] <;> omega) | fail)) only [go_sem, simprocAttr, hz']
    exact h
  have hz' : ¬ (den.length : Int) = 0 := fun h => hz (List.eq_nil_of_length_eq_zero (by omega))
  by_cases h4 : den.length ≤ 24
  · have h4' : ¬ (24 : Int) < den.length := by omega
    by_cases h3 : mag.length ≤ 24
    · have h3' : ¬ (24 : Int) < mag.length := by omega
      simp -implicitDefEqProofs (disch := (first | omega | (simp only [go_sem] <;> omega) | fail)) only [go_sem, simprocAttr, hz', h3', h4']
      have hcm : Canon mag := by
        unfold bigOkB at hb
        rw [Bool.and_eq_true] at hb
        exact ((natOkB_iff _).1 hb.1).2
      have hcd : Canon den := ((natOkB_iff _).1 hc).2
      refine callF.plain ?_
      refine ACall.eq_args (l' := [ints (limbs (valL mag).toNat), ints (limbs (valL den).toNat)]) (by rw [← hcm.eq, ← hcd.eq]; simp -implicitDefEqProofs (disch := (first | omega | (simp only [go_sem] <;> omega) | fail)) only [go_sem, simprocAttr]) ?_
      refine sgcd_ok _ _ (by rw [← hcm.eq]; omega) (by rw [← hcd.eq]; omega) _ _ _ ?_
      simp -implicitDefEqProofs (disch := (first | omega | (simp only [go_sem] <;> omega) | fail)) only [go_sem, simprocAttr]
      refine callF.plain (sone_ok _ _ _ _ ?_)
      rw [limbs_is_one]
      simp -implicitDefEqProofs (disch := (first | omega | (simp only [go_sem] <;> omega) | fail)) only [go_sem, simprocAttr]
      simp [hz, h3, h4] at h
      exact h
    · have h3' : (24 : Int) < mag.length := by omega
      simp [hz, h3] at h
      simp -implicitDefEqProofs (disch := (first | omega | (simp only [go_sem] <;> omega) | fail)) only [go_sem, simprocAttr, hz', h3', h4']
      exact h
  · have h4' : (24 : Int) < den.length := by omega
    simp [hz, h4] at h
    simp -implicitDefEqProofs (disch := (first | omega | (simp only [go_sem] <;> omega) | fail)) only [go_sem, simprocAttr, hz', h4']
    exact h

set_option maxRecDepth 100000 in
set_option maxHeartbeats 1000000 in
theorem sneg_ok (x : Fr) (hx : x.ok) (hs : x ≠ none) (e : Env) (σ : St) (K : KT) (h : K (ratV (negF x).rv) e σ) : ACall Tryz.prog 85 [ratV x.rv] e σ K := by
  match x, hx, hs, h with
  | some (n, d), hx, _, h =>
    have hl := hx.2.2
    simp only [ratV, Fr.rv, negF] at h ⊢
    refine ACall.pureW Tryz.func85 rfl Tryz.ntmps85 Tryz.results85 rfl rfl rfl ?_
    have hlt : (limbs d).take (limbs d).length = limbs d := List.take_of_length_le (Nat.le_refl _)
    have hl1 := hl.1
    have hl2 := hl.2
    simp -implicitDefEqProofs (disch := (first | omega | (simp only [go_sem] <;> omega) | fail)) only [go_sem, simprocAttr]
    refine Sat.drawn1 8 (Blk.flat 1 []) (fun n => .os n 0 0) [11, 12, 13] mixed (by kernel_rfl) (by rintro o ⟨⟩ e σ; simp only [List.getElem_toArray, List.getElem_cons_succ, List.getElem_cons_zero]; simp -implicitDefEqProofs (disch := (first | omega | (simp only [go_sem] <;> omega) | fail)) only [go_sem, simprocAttr]) ?_
    simp -implicitDefEqProofs (disch := (first | omega | (simp only [go_sem] <;> omega) | fail)) only [go_sem, simprocAttr]
    refine exQ.intro ⟨smake_ok _ n.natAbs (by omega) _ _ _ ⟨rfl, rfl⟩, smake_ok _ n.natAbs (by omega) _ _ _ ⟨rfl, rfl⟩⟩ ?_
    have hs : sgn (!decide (n < 0)) n.natAbs = -n := by
      unfold sgn; split <;> rename_i h1 <;> simp at h1 <;> omega
    rw [hs]
    unfold bigA
    simp -implicitDefEqProofs (disch := (first | omega | (simp only [go_sem] <;> omega) | fail)) only [go_sem, simprocAttr, cells_ok_ints, hlt]
    exact h

set_option maxRecDepth 100000 in
set_option maxHeartbeats 1000000 in
theorem sadd4_ok (x y : Fr) (hx : x.ok) (hy : y.ok) (hxs : x ≠ none) (hys : y ≠ none) (e : Env) (σ : St) (K : KT) (h : K (ratV (addF x y).rv) e σ) : ACall Tryz.prog 96 [ratV x.rv, ratV y.rv] e σ K := by
  match x, y, hx, hy, hxs, hys, h with
  | some (a, b), some (c, d), hx, hy, _, _, h =>
    have la := hx.2.2.1
    have lb := hx.2.2.2
    have lc := hy.2.2.1
    have ld := hy.2.2.2
    have l1 : (limbs (a * d).natAbs).length ≤ 48 := by rw [Int.natAbs_mul]; exact len_mul la ld
    have l2 : (limbs (c * b).natAbs).length ≤ 48 := by rw [Int.natAbs_mul]; exact len_mul lc lb
    have l3 : (limbs (b * d)).length ≤ 48 := len_mul lb ld
    have l4 : (limbs (a * d + c * b).natAbs).length ≤ 49 := len_le (by omega) (len_add l1 l2)
    have l5 : (limbs (a.natAbs * d)).length ≤ 48 := len_mul la ld
    have l6 : (limbs (c.natAbs * b)).length ≤ 48 := len_mul lc lb
    simp only [ratV, Fr.rv]
    refine ACall.pureW Tryz.func96 rfl Tryz.ntmps96 Tryz.results96 rfl rfl rfl ?_
    simp -implicitDefEqProofs (disch := (first | omega | (simp only [go_sem] <;> omega) | fail)) only [go_sem, simprocAttr]
    refine callF.plain (sone_ok _ _ _ _ ?_)
    rw [limbs_is_one]
    simp only [addF] at h
    by_cases hone : b = 1 ∧ d = 1
    · have hb1 := hone.1
      have hd1 := hone.2
      rw [decide_eq_true hb1]
      simp -implicitDefEqProofs (disch := (first | omega | (simp only [go_sem] <;> omega) | fail)) only [go_sem, simprocAttr]
      refine callF.plain (sone_ok _ _ _ _ ?_)
      rw [limbs_is_one, decide_eq_true hd1]
      simp -implicitDefEqProofs (disch := (first | omega | (simp only [go_sem] <;> omega) | fail)) only [go_sem, simprocAttr]
      refine callF.plain (sbigAdd_ok a c (by omega) (by omega) _ _ _ ?_)
      unfold bigA
      simp -implicitDefEqProofs (disch := (first | omega | (simp only [go_sem] <;> omega) | fail)) only [go_sem, simprocAttr]
      refine callF.fz [σ.n + 1 + 1 + 1 + 1] ?_
      have e1 : a * d + c * b = a + c := by rw [hb1, hd1]; omega
      have e2 : b * d = 1 := by rw [hb1, hd1]
      rw [e1] at h l4
      rw [e2] at h
      refine ACall.eq_args (l' := [.lit (.bool (decide (a + c < 0))), ints (limbs (a + c).natAbs), ints (limbs 1)]) (by rw [limbs_1]; simp -implicitDefEqProofs (disch := (first | omega | (simp only [go_sem] <;> omega) | fail)) only [go_sem, simprocAttr]; rfl) ?_
      refine slow_ok _ _ 1 (by omega) (by omega) (by rw [limbs_1]; simp) _ _ _ ?_
      rw [sgn_of]
      unfold ratV at h ⊢
      simp -implicitDefEqProofs (disch := (first | omega | (simp only [go_sem] <;> omega) | fail)) only [go_sem, simprocAttr]
      exact h
    · skip
      by_cases hb1 : b = 1
      · have hd1 : ¬ d = 1 := fun h => hone ⟨hb1, h⟩
        rw [decide_eq_true hb1]
        simp -implicitDefEqProofs (disch := (first | omega | (simp only [go_sem] <;> omega) | fail)) only [go_sem, simprocAttr]
        refine callF.plain (sone_ok _ _ _ _ ?_)
        rw [limbs_is_one, decide_eq_false hd1]
        simp -implicitDefEqProofs (disch := (first | omega | (simp only [go_sem] <;> omega) | fail)) only [go_sem, simprocAttr]
        refine Sat.drawn1 10 (Blk.deep 2 [[.lit (.bool false), .lit (.slice none 0 0)]]) (fun n => .ptr n 0 0) [11] mixed (by kernel_rfl) (by rintro o ⟨⟩ e σ; simp only [List.getElem_toArray, List.getElem_cons_succ, List.getElem_cons_zero]; simp -implicitDefEqProofs (disch := (first | omega | (simp only [go_sem] <;> omega) | fail)) only [go_sem, simprocAttr]) ?_
        simp -implicitDefEqProofs (disch := (first | omega | (simp only [go_sem] <;> omega) | fail)) only [go_sem, simprocAttr]
        refine exQ.intro ⟨smul_nat a.natAbs d (by omega) (by omega) _ _ _ ⟨rfl, rfl⟩, smul_nat a.natAbs d (by omega) (by omega) _ _ _ ⟨rfl, rfl⟩⟩ ?_
        try simp -implicitDefEqProofs (disch := (first | omega | (simp only [go_sem] <;> omega) | fail)) only [go_sem, simprocAttr]
        refine exQ.intro ⟨smake_ok _ _ (by omega) _ _ _ ⟨rfl, rfl⟩, smake_ok _ _ (by omega) _ _ _ ⟨rfl, rfl⟩⟩ ?_
        rw [sgn_scale]
        unfold bigA
        simp -implicitDefEqProofs (disch := (first | omega | (simp only [go_sem] <;> omega) | fail)) only [go_sem, simprocAttr]
        refine Sat.drawn1 10 (Blk.deep 2 [[.lit (.bool false), .lit (.slice none 0 0)]]) (fun n => .ptr n 0 0) [11] mixed (by kernel_rfl) (by rintro o ⟨⟩ e σ; simp only [List.getElem_toArray, List.getElem_cons_succ, List.getElem_cons_zero]; simp -implicitDefEqProofs (disch := (first | omega | (simp only [go_sem] <;> omega) | fail)) only [go_sem, simprocAttr]) ?_
        simp -implicitDefEqProofs (disch := (first | omega | (simp only [go_sem] <;> omega) | fail)) only [go_sem, simprocAttr]
        refine exQ.intro ⟨smul_nat c.natAbs b (by omega) (by omega) _ _ _ ⟨rfl, rfl⟩, smul_nat c.natAbs b (by omega) (by omega) _ _ _ ⟨rfl, rfl⟩⟩ ?_
        try simp -implicitDefEqProofs (disch := (first | omega | (simp only [go_sem] <;> omega) | fail)) only [go_sem, simprocAttr]
        refine exQ.intro ⟨smake_ok _ _ (by omega) _ _ _ ⟨rfl, rfl⟩, smake_ok _ _ (by omega) _ _ _ ⟨rfl, rfl⟩⟩ ?_
        rw [sgn_scale]
        unfold bigA
        simp -implicitDefEqProofs (disch := (first | omega | (simp only [go_sem] <;> omega) | fail)) only [go_sem, simprocAttr]
        refine callF.plain (sbigAdd_ok (a * d) (c * b) (by omega) (by omega) _ _ _ ?_)
        unfold bigA
        simp -implicitDefEqProofs (disch := (first | omega | (simp only [go_sem] <;> omega) | fail)) only [go_sem, simprocAttr]
        refine Sat.drawn0 [10] mixed (by kernel_rfl) ?_
        simp -implicitDefEqProofs (disch := (first | omega | (simp only [go_sem] <;> omega) | fail)) only [go_sem, simprocAttr]
        refine exQ.intro (smul_nat b d (by omega) (by omega) _ _ _ ⟨rfl, rfl⟩) ?_
        try simp -implicitDefEqProofs (disch := (first | omega | (simp only [go_sem] <;> omega) | fail)) only [go_sem, simprocAttr]
        refine exQ.intro (slow_ok _ _ (b * d) (Nat.mul_pos hx.1 hy.1) (by omega) (by omega) _ _ _ ⟨rfl, rfl⟩) ?_
        rw [sgn_of]
        unfold ratV at h ⊢
        simp -implicitDefEqProofs (disch := (first | omega | (simp only [go_sem] <;> omega) | fail)) only [go_sem, simprocAttr]
        exact h
      · rw [decide_eq_false hb1]
        simp -implicitDefEqProofs (disch := (first | omega | (simp only [go_sem] <;> omega) | fail)) only [go_sem, simprocAttr]
        refine Sat.drawn1 10 (Blk.deep 2 [[.lit (.bool false), .lit (.slice none 0 0)]]) (fun n => .ptr n 0 0) [11] mixed (by kernel_rfl) (by rintro o ⟨⟩ e σ; simp only [List.getElem_toArray, List.getElem_cons_succ, List.getElem_cons_zero]; simp -implicitDefEqProofs (disch := (first | omega | (simp only [go_sem] <;> omega) | fail)) only [go_sem, simprocAttr]) ?_
        simp -implicitDefEqProofs (disch := (first | omega | (simp only [go_sem] <;> omega) | fail)) only [go_sem, simprocAttr]
        refine exQ.intro ⟨smul_nat a.natAbs d (by omega) (by omega) _ _ _ ⟨rfl, rfl⟩, smul_nat a.natAbs d (by omega) (by omega) _ _ _ ⟨rfl, rfl⟩⟩ ?_
        try simp -implicitDefEqProofs (disch := (first | omega | (simp only [go_sem] <;> omega) | fail)) only [go_sem, simprocAttr]
        refine exQ.intro ⟨smake_ok _ _ (by omega) _ _ _ ⟨rfl, rfl⟩, smake_ok _ _ (by omega) _ _ _ ⟨rfl, rfl⟩⟩ ?_
        rw [sgn_scale]
        unfold bigA
        simp -implicitDefEqProofs (disch := (first | omega | (simp only [go_sem] <;> omega) | fail)) only [go_sem, simprocAttr]
        refine Sat.drawn1 10 (Blk.deep 2 [[.lit (.bool false), .lit (.slice none 0 0)]]) (fun n => .ptr n 0 0) [11] mixed (by kernel_rfl) (by rintro o ⟨⟩ e σ; simp only [List.getElem_toArray, List.getElem_cons_succ, List.getElem_cons_zero]; simp -implicitDefEqProofs (disch := (first | omega | (simp only [go_sem] <;> omega) | fail)) only [go_sem, simprocAttr]) ?_
        simp -implicitDefEqProofs (disch := (first | omega | (simp only [go_sem] <;> omega) | fail)) only [go_sem, simprocAttr]
        refine exQ.intro ⟨smul_nat c.natAbs b (by omega) (by omega) _ _ _ ⟨rfl, rfl⟩, smul_nat c.natAbs b (by omega) (by omega) _ _ _ ⟨rfl, rfl⟩⟩ ?_
        try simp -implicitDefEqProofs (disch := (first | omega | (simp only [go_sem] <;> omega) | fail)) only [go_sem, simprocAttr]
        refine exQ.intro ⟨smake_ok _ _ (by omega) _ _ _ ⟨rfl, rfl⟩, smake_ok _ _ (by omega) _ _ _ ⟨rfl, rfl⟩⟩ ?_
        rw [sgn_scale]
        unfold bigA
        simp -implicitDefEqProofs (disch := (first | omega | (simp only [go_sem] <;> omega) | fail)) only [go_sem, simprocAttr]
        refine callF.plain (sbigAdd_ok (a * d) (c * b) (by omega) (by omega) _ _ _ ?_)
        unfold bigA
        simp -implicitDefEqProofs (disch := (first | omega | (simp only [go_sem] <;> omega) | fail)) only [go_sem, simprocAttr]
        refine Sat.drawn0 [10] mixed (by kernel_rfl) ?_
        simp -implicitDefEqProofs (disch := (first | omega | (simp only [go_sem] <;> omega) | fail)) only [go_sem, simprocAttr]
        refine exQ.intro (smul_nat b d (by omega) (by omega) _ _ _ ⟨rfl, rfl⟩) ?_
        try simp -implicitDefEqProofs (disch := (first | omega | (simp only [go_sem] <;> omega) | fail)) only [go_sem, simprocAttr]
        refine exQ.intro (slow_ok _ _ (b * d) (Nat.mul_pos hx.1 hy.1) (by omega) (by omega) _ _ _ ⟨rfl, rfl⟩) ?_
        rw [sgn_of]
        unfold ratV at h ⊢
        simp -implicitDefEqProofs (disch := (first | omega | (simp only [go_sem] <;> omega) | fail)) only [go_sem, simprocAttr]
        exact h

set_option maxRecDepth 100000 in
set_option maxHeartbeats 1000000 in
theorem smul4_ok (x y : Fr) (hx : x.ok) (hy : y.ok) (hxs : x ≠ none) (hys : y ≠ none) (e : Env) (σ : St) (K : KT) (h : K (ratV (mulF x y).rv) e σ) : ACall Tryz.prog 97 [ratV x.rv, ratV y.rv] e σ K := by
  match x, y, hx, hy, hxs, hys, h with
  | some (a, b), some (c, d), hx, hy, _, _, h =>
    have la := hx.2.2.1
    have lb := hx.2.2.2
    have lc := hy.2.2.1
    have ld := hy.2.2.2
    have l1 : (limbs (a.natAbs * c.natAbs)).length ≤ 48 := len_mul la lc
    have l3 : (limbs (b * d)).length ≤ 48 := len_mul lb ld
    simp only [ratV, Fr.rv]
    refine ACall.pureW Tryz.func97 rfl Tryz.ntmps97 Tryz.results97 rfl rfl rfl ?_
    simp -implicitDefEqProofs (disch := (first | omega | (simp only [go_sem] <;> omega) | fail)) only [go_sem, simprocAttr]
    refine Sat.drawn0 [20] mixed (by kernel_rfl) ?_
    simp -implicitDefEqProofs (disch := (first | omega | (simp only [go_sem] <;> omega) | fail)) only [go_sem, simprocAttr]
    refine exQ.intro (smul_nat a.natAbs c.natAbs (by omega) (by omega) _ _ _ ⟨rfl, rfl⟩) ?_
    try simp -implicitDefEqProofs (disch := (first | omega | (simp only [go_sem] <;> omega) | fail)) only [go_sem, simprocAttr]
    refine exQ.intro (smul_nat b d (by omega) (by omega) _ _ _ ⟨rfl, rfl⟩) ?_
    try simp -implicitDefEqProofs (disch := (first | omega | (simp only [go_sem] <;> omega) | fail)) only [go_sem, simprocAttr]
    refine exQ.intro (slow_ok (decide (a < 0) != decide (c < 0)) _ (b * d) (Nat.mul_pos hx.1 hy.1) (by omega) (by omega) _ _ _ ⟨rfl, rfl⟩) ?_
    rw [sgn_mul]
    simp only [mulF] at h
    unfold ratV at h ⊢
    simp -implicitDefEqProofs (disch := (first | omega | (simp only [go_sem] <;> omega) | fail)) only [go_sem, simprocAttr]
    exact h

theorem okB_none : ratOkB (Fr.rv none).neg (Fr.rv none).mag (Fr.rv none).den = false := by
  simp [Fr.rv, ratOkB]
theorem okB_fr {x : Fr} (hx : x.ok) : ratOkB x.rv.neg x.rv.mag x.rv.den = x.isSome := by
  match x, hx with
  | none, _ => exact okB_none
  | some (n, d), hx => exact Good.okB hx
theorem rv_lens {x : Fr} (hx : x.ok) : x.rv.mag.length ≤ 24 ∧ x.rv.den.length ≤ 24 := by
  match x, hx with
  | none, _ => simp [Fr.rv]
  | some (n, d), hx => exact hx.2.2

set_option maxRecDepth 100000 in
set_option maxHeartbeats 1000000 in
theorem sratAdd_ok (x y : Fr) (hx : x.ok) (hy : y.ok) (e : Env) (σ : St) (K : KT) (h : K (ratV (addF x y).rv) e σ) : ACall Tryz.prog 46 [ratV x.rv, ratV y.rv] e σ K := by
  have lx := rv_lens hx
  have ly := rv_lens hy
  have ox := okB_fr hx
  have oy := okB_fr hy
  refine ACall.pureW Tryz.func46 rfl Tryz.ntmps46 Tryz.results46 rfl rfl rfl ?_
  unfold ratV
  simp -implicitDefEqProofs (disch := (first | omega | (simp only [go_sem] <;> omega) | fail)) only [go_sem, simprocAttr]
  refine callF.plain (sratOk_ok x.rv (by omega) (by omega) _ _ _ ?_)
  rw [ox]
  by_cases hxs : x = none
  · have h1 : x.isSome = false := by rw [hxs]; rfl
    have h2 : addF x y = none := by rw [hxs]; rfl
    rw [h1]
    simp only [h2, ratV, Fr.rv] at h
    simp -implicitDefEqProofs (disch := (first | omega | (simp only [go_sem] <;> omega) | fail)) only [go_sem, simprocAttr]
    exact h
  have h1 : x.isSome = true := Option.isSome_iff_ne_none.2 hxs
  rw [h1]
  simp -implicitDefEqProofs (disch := (first | omega | (simp only [go_sem] <;> omega) | fail)) only [go_sem, simprocAttr]
  refine callF.plain (sratOk_ok y.rv (by omega) (by omega) _ _ _ ?_)
  rw [oy]
  by_cases hys : y = none
  · have h1 : y.isSome = false := by rw [hys]; rfl
    have h2 : addF x y = none := by
      rw [hys]
      match x with
      | none => rfl
      | some _ => rfl
    rw [h1]
    simp only [h2, ratV, Fr.rv] at h
    simp -implicitDefEqProofs (disch := (first | omega | (simp only [go_sem] <;> omega) | fail)) only [go_sem, simprocAttr]
    exact h
  have h1 : y.isSome = true := Option.isSome_iff_ne_none.2 hys
  rw [h1]
  simp -implicitDefEqProofs (disch := (first | omega | (simp only [go_sem] <;> omega) | fail)) only [go_sem, simprocAttr]
  refine callF.plain (sadd4_ok x y hx hy hxs hys _ _ _ ?_)
  unfold ratV at h ⊢
  simp -implicitDefEqProofs (disch := (first | omega | (simp only [go_sem] <;> omega) | fail)) only [go_sem, simprocAttr]
  exact h
set_option maxRecDepth 100000 in
set_option maxHeartbeats 1000000 in
theorem sratMul_ok (x y : Fr) (hx : x.ok) (hy : y.ok) (e : Env) (σ : St) (K : KT) (h : K (ratV (mulF x y).rv) e σ) : ACall Tryz.prog 47 [ratV x.rv, ratV y.rv] e σ K := by
  have lx := rv_lens hx
  have ly := rv_lens hy
  have ox := okB_fr hx
  have oy := okB_fr hy
  refine ACall.pureW Tryz.func47 rfl Tryz.ntmps47 Tryz.results47 rfl rfl rfl ?_
  unfold ratV
  simp -implicitDefEqProofs (disch := (first | omega | (simp only [go_sem] <;> omega) | fail)) only [go_sem, simprocAttr]
  refine callF.plain (sratOk_ok x.rv (by omega) (by omega) _ _ _ ?_)
  rw [ox]
  by_cases hxs : x = none
  · have h1 : x.isSome = false := by rw [hxs]; rfl
    have h2 : mulF x y = none := by rw [hxs]; rfl
    rw [h1]
    simp only [h2, ratV, Fr.rv] at h
    simp -implicitDefEqProofs (disch := (first | omega | (simp only [go_sem] <;> omega) | fail)) only [go_sem, simprocAttr]
    exact h
  have h1 : x.isSome = true := Option.isSome_iff_ne_none.2 hxs
  rw [h1]
  simp -implicitDefEqProofs (disch := (first | omega | (simp only [go_sem] <;> omega) | fail)) only [go_sem, simprocAttr]
  refine callF.plain (sratOk_ok y.rv (by omega) (by omega) _ _ _ ?_)
  rw [oy]
  by_cases hys : y = none
  · have h1 : y.isSome = false := by rw [hys]; rfl
    have h2 : mulF x y = none := by
      rw [hys]
      match x with
      | none => rfl
      | some _ => rfl
    rw [h1]
    simp only [h2, ratV, Fr.rv] at h
    simp -implicitDefEqProofs (disch := (first | omega | (simp only [go_sem] <;> omega) | fail)) only [go_sem, simprocAttr]
    exact h
  have h1 : y.isSome = true := Option.isSome_iff_ne_none.2 hys
  rw [h1]
  simp -implicitDefEqProofs (disch := (first | omega | (simp only [go_sem] <;> omega) | fail)) only [go_sem, simprocAttr]
  refine callF.plain (smul4_ok x y hx hy hxs hys _ _ _ ?_)
  unfold ratV at h ⊢
  simp -implicitDefEqProofs (disch := (first | omega | (simp only [go_sem] <;> omega) | fail)) only [go_sem, simprocAttr]
  exact h
set_option maxRecDepth 100000 in
set_option maxHeartbeats 1000000 in
theorem sratSub_ok (x y : Fr) (hx : x.ok) (hy : y.ok) (e : Env) (σ : St) (K : KT) (h : K (ratV (subF x y).rv) e σ) : ACall Tryz.prog 80 [ratV x.rv, ratV y.rv] e σ K := by
  have lx := rv_lens hx
  have ly := rv_lens hy
  have ox := okB_fr hx
  have oy := okB_fr hy
  refine ACall.pureW Tryz.func80 rfl Tryz.ntmps80 Tryz.results80 rfl rfl rfl ?_
  unfold ratV
  simp -implicitDefEqProofs (disch := (first | omega | (simp only [go_sem] <;> omega) | fail)) only [go_sem, simprocAttr]
  refine callF.plain (sratOk_ok x.rv (by omega) (by omega) _ _ _ ?_)
  rw [ox]
  by_cases hxs : x = none
  · have h1 : x.isSome = false := by rw [hxs]; rfl
    have h2 : subF x y = none := by rw [hxs]; rfl
    rw [h1]
    simp only [h2, ratV, Fr.rv] at h
    simp -implicitDefEqProofs (disch := (first | omega | (simp only [go_sem] <;> omega) | fail)) only [go_sem, simprocAttr]
    exact h
  have h1 : x.isSome = true := Option.isSome_iff_ne_none.2 hxs
  rw [h1]
  simp -implicitDefEqProofs (disch := (first | omega | (simp only [go_sem] <;> omega) | fail)) only [go_sem, simprocAttr]
  refine callF.plain (sratOk_ok y.rv (by omega) (by omega) _ _ _ ?_)
  rw [oy]
  by_cases hys : y = none
  · have h1 : y.isSome = false := by rw [hys]; rfl
    have h2 : subF x y = none := by
      rw [hys]
      match x with
      | none => rfl
      | some _ => rfl
    rw [h1]
    simp only [h2, ratV, Fr.rv] at h
    simp -implicitDefEqProofs (disch := (first | omega | (simp only [go_sem] <;> omega) | fail)) only [go_sem, simprocAttr]
    exact h
  have h1 : y.isSome = true := Option.isSome_iff_ne_none.2 hys
  rw [h1]
  simp -implicitDefEqProofs (disch := (first | omega | (simp only [go_sem] <;> omega) | fail)) only [go_sem, simprocAttr]
  refine Sat.drawn0 [4] mixed (by kernel_rfl) ?_
  simp -implicitDefEqProofs (disch := (first | omega | (simp only [go_sem] <;> omega) | fail)) only [go_sem, simprocAttr]
  refine exQ.intro (sneg_ok y hy hys _ _ _ ⟨rfl, rfl⟩) ?_
  try simp -implicitDefEqProofs (disch := (first | omega | (simp only [go_sem] <;> omega) | fail)) only [go_sem, simprocAttr]
  have hyn : negF y ≠ none := by
    match y, hys with
    | some (c, d), _ => simp [negF]
  refine exQ.intro (sadd4_ok x (negF y) hx (negF_ok hy) hxs hyn _ _ _ ⟨rfl, rfl⟩) ?_
  rw [subF_eq] at h
  unfold ratV at h ⊢
  simp -implicitDefEqProofs (disch := (first | omega | (simp only [go_sem] <;> omega) | fail)) only [go_sem, simprocAttr]
  exact h


/-- The sign of a fraction; 0 for none. -/
def sgnF : Fr → Int
  | some (n, _) => sgnZ n
  | none => 0

set_option maxRecDepth 100000 in
set_option maxHeartbeats 1000000 in
theorem sratSign_ok (x : Fr) (hx : x.ok) (e : Env) (σ : St) (K : KT) (h : K (.lit (.int .i64 (sgnF x))) e σ) : ACall Tryz.prog 63 [ratV x.rv] e σ K := by
  have lx := rv_lens hx
  have ox := okB_fr hx
  refine ACall.pureW Tryz.func63 rfl Tryz.ntmps63 Tryz.results63 rfl rfl rfl ?_
  unfold ratV
  simp -implicitDefEqProofs (disch := (first | omega | (simp only [go_sem] <;> omega) | fail)) only [go_sem, simprocAttr]
  refine callF.plain (sratOk_ok x.rv (by omega) (by omega) _ _ _ ?_)
  rw [ox]
  match x, hx, h with
  | none, _, h =>
    simp only [Option.isSome_none, sgnF] at h ⊢
    simp -implicitDefEqProofs (disch := (first | omega | (simp only [go_sem] <;> omega) | fail)) only [go_sem, simprocAttr]
    exact h
  | some (n, d), hx, h =>
    simp only [Option.isSome_some, sgnF, sgnZ, Fr.rv] at h ⊢
    by_cases h0 : n = 0
    · have hz : ((limbs n.natAbs).length : Int) = 0 := by rw [h0]; simp [limbs_zero]
      rw [if_pos h0] at h
      simp -implicitDefEqProofs (disch := (first | omega | (simp only [go_sem] <;> omega) | fail)) only [go_sem, simprocAttr, hz]
      exact h
    · have hz : ¬ ((limbs n.natAbs).length : Int) = 0 := by have := limbs_len_pos (n := n.natAbs) (by omega); omega
      rw [if_neg h0] at h
      by_cases h1 : n < 0
      · rw [if_pos h1] at h
        have h1' : decide (n < 0) = true := decide_eq_true h1
        simp -implicitDefEqProofs (disch := (first | omega | (simp only [go_sem] <;> omega) | fail)) only [go_sem, simprocAttr, hz, h1']
        exact h
      · rw [if_neg h1] at h
        have h1' : decide (n < 0) = false := decide_eq_false h1
        simp -implicitDefEqProofs (disch := (first | omega | (simp only [go_sem] <;> omega) | fail)) only [go_sem, simprocAttr, hz, h1']
        exact h
end Go.Proofs.Qqz
