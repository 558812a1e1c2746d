/- Contracts: copies, and long division. -/
import Derived.Test.YtanoekhdoelkbaaGreatKf
import Derived.Test.YtanoekhdoelkbaaGreatDiv
set_option linter.unusedSimpArgs false
set_option linter.unusedVariables false
namespace Go.Proofs.Qqz
open Go

set_option maxRecDepth 100000 in
set_option maxHeartbeats 1000000 in
theorem clone_ok (x : List Int) (hlx : x.length ≤ 1000000) (e : Env) (σ : St) (K : KT) (h : K (ints x) e σ) : ACall Tryz.prog 140 [ints x] e σ K := by
  refine ACall.pureW Tryz.func140 rfl Tryz.ntmps140 Tryz.results140 rfl rfl rfl ?_
  simp -implicitDefEqProofs (disch := (first | omega | (simp only [go_sem] <;> omega) | fail)) only [go_sem, simprocAttr]
  intro b hb
  cases b with
  | true =>
    have := hb rfl
    subst this
    simp -implicitDefEqProofs (disch := (first | omega | (simp only [go_sem] <;> omega) | fail)) only [go_sem, simprocAttr]
    exact h
  | false =>
    simp -implicitDefEqProofs (disch := (first | omega | (simp only [go_sem] <;> omega) | fail)) only [go_sem, simprocAttr, cells_ok_ints]
    exact h

set_option maxRecDepth 100000 in
set_option maxHeartbeats 1000000 in
theorem over_small (x y : List Int) (hx : Canon x) (hy : Canon y) (hlx : x.length ≤ 100000) (hly : y.length ≤ 100000) (hlt : valL x < valL y) (e : Env) (σ : St) (K : KT)
    (h : K (.tup [ints (limbs (valL x / valL y).toNat), ints (limbs (valL x % valL y).toNat)]) e σ) : ACall Tryz.prog 167 [ints x, ints y] e σ K := by
  refine ACall.pureW Tryz.func167 rfl Tryz.ntmps167 Tryz.results167 rfl rfl rfl ?_
  simp -implicitDefEqProofs (disch := (first | omega | (simp only [go_sem] <;> omega) | fail)) only [go_sem, simprocAttr]
  refine callF.plain (compare_ok x y hx hy (by omega) (by omega) _ _ _ ?_)
  rw [cmpZ_lt hlt]
  simp -implicitDefEqProofs (disch := (first | omega | (simp only [go_sem] <;> omega) | fail)) only [go_sem, simprocAttr]
  refine callF.plain (clone_ok x (by omega) _ _ _ ?_)
  simp -implicitDefEqProofs (disch := (first | omega | (simp only [go_sem] <;> omega) | fail)) only [go_sem, simprocAttr]
  rw [Int.ediv_eq_zero_of_lt (valL_nonneg hx.1) hlt, Int.emod_eq_of_lt (valL_nonneg hx.1) hlt, ← hx.eq, Int.toNat_zero, limbs_zero] at h
  exact h

set_option maxRecDepth 100000 in
set_option maxHeartbeats 1000000 in
theorem over_one (x : List Int) (d : Int) (hx : Canon x) (hd : 0 < d ∧ d < 1000000000) (hlx : x.length ≤ 100000) (hge : d ≤ valL x) (e : Env) (σ : St) (K : KT)
    (h : K (.tup [ints (limbs (valL x / d).toNat), ints (limbs (valL x % d).toNat)]) e σ) : ACall Tryz.prog 167 [ints x, ints [d]] e σ K := by
  refine ACall.pureW Tryz.func167 rfl Tryz.ntmps167 Tryz.results167 rfl rfl rfl ?_
  simp -implicitDefEqProofs (disch := (first | omega | (simp only [go_sem] <;> omega) | fail)) only [go_sem, simprocAttr]
  have hcd : Canon [d] := ⟨by simp [Dig]; omega, by simp; omega⟩
  have hv : valL [d] = d := by simp [valL]
  refine callF.plain (compare_ok x [d] hx hcd (by omega) (by simp) _ _ _ ?_)
  have hr := Int.emod_lt_of_pos (valL x) hd.1
  have hr0 := Int.emod_nonneg (valL x) (show d ≠ 0 by omega)
  have hcmp : ¬ cmpZ (valL x) d < 0 := by unfold cmpZ; rw [if_neg (by omega)]; split <;> omega
  simp -implicitDefEqProofs (disch := (first | omega | (simp only [go_sem] <;> omega) | fail)) only [go_sem, simprocAttr, hv, hcmp, getD_int]
  refine callF.plain (overSmall_ok x d hx.1 hd.1 (by omega) (by omega) _ _ _ ?_)
  simp -implicitDefEqProofs (disch := (first | omega | (simp only [go_sem] <;> omega) | fail)) only [go_sem, simprocAttr, wrap_u64]
  refine callF.plain ?_
  obtain ⟨r, hr'⟩ : ∃ r : Nat, valL x % d = r := ⟨(valL x % d).toNat, by omega⟩
  rw [hr'] at h hr ⊢
  refine limbsOf_ok r (by omega) _ _ _ ?_
  simp -implicitDefEqProofs (disch := (first | omega | (simp only [go_sem] <;> omega) | fail)) only [go_sem, simprocAttr]
  rw [Int.toNat_natCast] at h
  exact h

set_option maxRecDepth 100000 in
set_option maxHeartbeats 1000000 in
theorem over_long (x y : List Int) (hx : Canon x) (hy : Canon y) (hlx : x.length ≤ 100000) (hly : y.length ≤ 100000) (hn2 : 2 ≤ y.length) (hge : valL y ≤ valL x) (e : Env) (σ : St) (K : KT)
    (h : K (.tup [ints (limbs (valL x / valL y).toNat), ints (limbs (valL x % valL y).toNat)]) e σ) : ACall Tryz.prog 167 [ints x, ints y] e σ K := by
  refine ACall.pureW Tryz.func167 rfl Tryz.ntmps167 Tryz.results167 rfl rfl rfl ?_
  simp -implicitDefEqProofs (disch := (first | omega | (simp only [go_sem] <;> omega) | fail)) only [go_sem, simprocAttr]
  refine callF.plain (compare_ok x y hx hy (by omega) (by omega) _ _ _ ?_)
  have hcmp : ¬ cmpZ (valL x) (valL y) < 0 := by unfold cmpZ; rw [if_neg (by omega)]; split <;> omega
  have hn1 : ¬ (y.length : Int) = 1 := by omega
  have hylast := hy.1.getD (y.length - 1)
  have hypos : 0 < y.getD (y.length - 1) 0 := by
    have h1 := getLast_getD (m := y) (by omega)
    have h2 := hy.2
    rw [h1] at h2
    have : y.getD (y.length - 1) 0 ≠ 0 := fun h => h2 (by rw [h])
    omega
  have hyi : ((y.length : Int) - 1).toNat = y.length - 1 := by omega
  obtain ⟨d, hdd⟩ : ∃ d, d = 1000000000 / (y.getD (y.length - 1) 0 + 1) := ⟨_, rfl⟩
  have hd0 : 1 ≤ d := by rw [hdd]; exact Int.le_ediv_of_mul_le (by omega) (by omega)
  have hd1 : d < 1000000000 := by rw [hdd]; exact Int.ediv_lt_of_lt_mul (by omega) (by omega)
  have hdig : Dig [d] := by simp [Dig]; omega
  have hvd : valL [d] = d := by simp [valL]
  simp -implicitDefEqProofs (disch := (first | omega | (simp only [go_sem] <;> omega) | fail)) only [go_sem, simprocAttr, hcmp, hn1, hyi, wrap_i64, getD_int, tdiv_pos', ← hdd]
  refine callF.fz [σ.n] ?_
  refine ACall.eq_args (l' := [ints x, ints [d]]) (by simp -implicitDefEqProofs (disch := (first | omega | (simp only [go_sem] <;> omega) | fail)) only [go_sem, simprocAttr]; rfl) ?_
  refine times_own x [d] hx.1 hdig (by omega) (by simp) (by have := valL_lt hx.1; have := hy.pos (by intro h0; subst h0; simp at hn2); intro h0; have h1 : x = [] := List.eq_nil_of_length_eq_zero h0; subst h1; simp [valL] at hge; omega) (by simp) _ _ _ fun σ1 L hn hB hO hle hcut => ?_
  rw [hvd] at hle hcut ⊢
  have hxd : 0 ≤ valL x * d := Int.mul_nonneg (valL_nonneg hx.1) (by omega)
  have hyd : 0 ≤ valL y * d := Int.mul_nonneg (valL_nonneg hy.1) (by omega)
  simp only [fzS_one, St_put_n, St_new_n] at hn hB hO
  have hO' : Old σ σ1 := Old.trans (by simp -implicitDefEqProofs (disch := (first | omega | (simp only [go_sem] <;> omega) | fail)) only [go_sem, simprocAttr]) hO
  have hlen := limbs_len_mul hx.1 (show 0 ≤ d by omega) hd1
  have hxy : valL y * d ≤ valL x * d := Int.mul_le_mul_of_nonneg_right hge (by omega)
  have hlenV := limbs_len_mono (show (valL y * d).toNat ≤ (valL x * d).toNat by omega)
  clear hdd
  simp -implicitDefEqProofs (disch := (first | omega | (simp only [go_sem] <;> omega) | fail)) only [go_sem, simprocAttr, hn, hB, hcut]
  refine ⟨by omega, callF.plain ?_⟩
  refine ACall.eq_args (l' := [ints y, ints [d]]) (by simp -implicitDefEqProofs (disch := (first | omega | (simp only [go_sem] <;> omega) | fail)) only [go_sem, simprocAttr]; rfl) ?_
  refine times_ok y [d] hy.1 hdig (by omega) (by simp) _ _ _ ?_
  rw [hvd]
  simp -implicitDefEqProofs (disch := (first | omega | (simp only [go_sem] <;> omega) | fail)) only [go_sem, simprocAttr, hn, hB, hcut]
  generalize hVV : limbs (valL y * d).toNat = V at *
  refine Sat.loopW (fun (t : Nat) e' σ' => ∃ k U, t = x.length + 1 - U.length ∧ e' 0 = sl intRow x ∧ e' 1 = sl intRow y ∧ e' 8 = .ps [[.lit (.int .i64 d)]] ∧ e' 9 = .os k 0 U.length ∧ e' 10 = sl intRow V ∧
    σ.n ≤ k ∧ k < σ'.n ∧ σ'.h k = bl intRow 1 U ∧ Old σ σ' ∧ σ.n ≤ σ'.n ∧ Dig U ∧ valL U = valL x * d ∧ V.length < U.length ∧ U.length ≤ x.length + 2 ∧ ∃ Z, U = Z ++ [0]) (fun t => t) _ rfl ⟨σ.n + 1 + 1 + 1, limbs (valL x * d).toNat ++ [0], rfl, ?_⟩ ?_
  · simp -implicitDefEqProofs (disch := (first | omega | (simp only [go_sem] <;> omega) | fail)) only [go_sem, simprocAttr, hn, hB, hcut, hO']
    refine ⟨by omega, by omega, by omega, ?_, ?_, by omega, by omega, _, rfl⟩
    · rw [Dig.append]; exact ⟨Dig_limbs _, by simp [Dig]⟩
    · rw [valL_append, valL_limbs]; simp [valL]; omega
  · clear hcut hle hB hn hO hO' hlen L σ1
    rintro t e1 σ1 ⟨k, U, rfl, h0, h1, h8, h9, h10, hk, hkn, hB, hO, hn, hdU, hvU, hVU, hUx, Z, hZ⟩
    by_cases hc : U.length ≤ x.length
    · have hc' : (U.length : Int) ≤ x.length := by omega
      simp -implicitDefEqProofs (disch := (first | omega | (simp only [go_sem] <;> omega) | fail)) only [go_sem, simprocAttr, h0, h1, h8, h9, h10, hc', hB]
      refine ⟨by omega, x.length + 1 - (U ++ [0]).length, by simp; omega, σ1.n + 1, U ++ [0], rfl, ?_⟩
      simp -implicitDefEqProofs (disch := (first | omega | (simp only [go_sem] <;> omega) | fail)) only [go_sem, simprocAttr, hO]
      refine ⟨by omega, by omega, by omega, ?_, ?_, by omega, by omega, _, rfl⟩
      · rw [Dig.append]; exact ⟨hdU, by simp [Dig]⟩
      · rw [valL_append, hvU]; simp [valL]
    · have hc' : ¬ (U.length : Int) ≤ x.length := by omega
      have hln : ((U.length : Int) - V.length).toNat = U.length - V.length := by omega
      simp -implicitDefEqProofs (disch := (first | omega | (simp only [go_sem] <;> omega) | fail)) only [go_sem, simprocAttr, h0, h1, h8, h9, h10, hc', hB, wrap_i64, hln]
      have hvV : valL V = valL y * d := by rw [← hVV, valL_limbs]; omega
      have hVc : Canon V := by rw [← hVV]; exact Canon_limbs _
      have hVpos : 0 < valL V := by rw [hvV]; exact Int.mul_pos (hy.pos (by intro h0; subst h0; simp at hn2)) (by omega)
      refine Sat.loopW (fun (t : Nat) e' σ' => ∃ U' Q, e' 0 = sl intRow x ∧ e' 1 = sl intRow y ∧ e' 8 = .ps [[.lit (.int .i64 d)]] ∧ e' 9 = .os k 0 U.length ∧ e' 10 = sl intRow V ∧ e' 11 = .lit (.int .i64 V.length) ∧ e' 12 = .os σ1.n 0 (U.length - V.length) ∧ e' 13 = .lit (.int .i64 ((t : Int) - 1)) ∧
        σ'.n = σ1.n + 1 ∧ σ'.h k = bl intRow 1 U' ∧ σ'.h σ1.n = bl intRow 1 Q ∧ Old σ σ' ∧ U'.length = U.length ∧ Q.length = U.length - V.length ∧ t ≤ U.length - V.length ∧ Dig U' ∧ Dig (Q.drop t) ∧ valL U' + valL V * (1000000000 ^ t * valL (Q.drop t)) = valL x * d ∧ valL (U'.drop t) < valL V) (fun t => t) (U.length - V.length) rfl ?_ ?_
      · simp -implicitDefEqProofs (disch := (first | omega | (simp only [go_sem] <;> omega) | fail)) only [go_sem, simprocAttr, hO, hB, hln]
        refine ⟨U, List.replicate (U.length - V.length) 0, h0, h1, h8, h9, h10, ?_⟩
        have e1 : ((U.length : Int) - V.length - 1) = ((U.length - V.length : Nat) : Int) - 1 := by omega
        have e2 : (List.replicate (U.length - V.length) (0 : Int)).drop (U.length - V.length) = [] := List.drop_of_length_le (by simp)
        refine ⟨by rw [e1], rfl, rfl, rfl, by simp, Nat.le_refl _, hdU, by rw [e2]; exact Dig.nil, by rw [e2]; simp [valL, hvU], ?_⟩
        have hZl : U.length = Z.length + 1 := by rw [hZ]; simp
        have hV1 : 1 ≤ V.length := by
          apply Nat.pos_of_ne_zero; intro h0
          have h1 : V = [] := List.eq_nil_of_length_eq_zero h0
          rw [h1] at hVpos; simp [valL] at hVpos
        have e3 : U.drop (U.length - V.length) = Z.drop (U.length - V.length) ++ [0] := by
          have hm : U.length - V.length ≤ Z.length := by omega
          generalize U.length - V.length = m at hm
          rw [hZ, List.drop_append_of_le_length hm]
        have hdZ : Dig (Z.drop (U.length - V.length)) := by
          rw [hZ] at hdU; exact (Dig.append.1 hdU).1.drop _
        have h5 := valL_lt hdZ
        have h6 := canon_ge hVc (by intro h0; rw [h0] at hVpos; simp [valL] at hVpos)
        rw [e3, valL_append]
        have e4 : (Z.drop (U.length - V.length)).length = V.length - 1 := by simp; omega
        rw [e4] at h5
        have e5 : valL [0] = 0 := rfl
        rw [e5, Int.mul_zero]
        omega
      · rintro t e2 σ2 ⟨U', Q, h0, h1, h8, h9, h10, h11, h12, h13, hn2', hBu, hBq, hO2, hU'l, hQl, ht, hdU', hdQ, hval, hwin⟩
        have hV2 : 2 ≤ V.length := by
          have h1 : (valL y).toNat ≤ (valL y * d).toNat := by
            have h2 := valL_nonneg hy.1
            have h3 : valL y * 1 ≤ valL y * d := Int.mul_le_mul_of_nonneg_left (by omega) h2
            omega
          have h2 := limbs_len_mono h1
          rw [← hy.eq, hVV] at h2
          omega
        by_cases hpos : 0 < t
        · obtain ⟨j, rfl⟩ : ∃ j, t = j + 1 := ⟨t - 1, by omega⟩
          have h13' : e2 13 = .lit (.int .i64 (j : Int)) := by rw [h13]; congr 2; omega
          have hj0 : (0 : Int) ≤ (j : Int) := by omega
          have i1 : ((j : Int) + (V.length : Int)).toNat = j + V.length := by omega
          have i2 : ((j : Int) + (V.length : Int) - 1).toNat = j + V.length - 1 := by omega
          have i3 : ((V.length : Int) - 1).toNat = V.length - 1 := by omega
          have i4 : ((V.length : Int) - 2).toNat = V.length - 2 := by omega
          have i5 : ((j : Int) + (V.length : Int) - 2).toNat = j + V.length - 2 := by omega
          have a1 := hdU'.getD (j + V.length)
          have a2 := hdU'.getD (j + V.length - 1)
          have a3 := hdU'.getD (j + V.length - 2)
          have b1 := hVc.1.getD (V.length - 1)
          have b2 := hVc.1.getD (V.length - 2)
          have b1p : 1 ≤ V.getD (V.length - 1) 0 := by
            have h1 := getLast_getD (m := V) (by omega)
            have h2 := hVc.2
            rw [h1] at h2
            have : V.getD (V.length - 1) 0 ≠ 0 := fun h => h2 (by rw [h])
            omega
          simp -implicitDefEqProofs (disch := (first | omega | (simp only [go_sem] <;> omega) | fail)) only [go_sem, simprocAttr, h0, h1, h8, h9, h10, h11, h12, h13', hj0]
          refine Sat.drawn0 [] mixed (by kernel_rfl) ?_
          simp -implicitDefEqProofs (disch := (first | omega | (simp only [go_sem] <;> omega) | fail)) only [go_sem, simprocAttr, h0, h1, h8, h9, h10, h11, h12, h13', hj0, hBu, hn2', wrap_i64, getD_int, i1, i2]
          refine Sat.drawn0 [] mixed (by kernel_rfl) ?_
          simp -implicitDefEqProofs (disch := (first | omega | (simp only [go_sem] <;> omega) | fail)) only [go_sem, simprocAttr, h0, h1, h8, h9, h10, h11, h12, h13', hj0, hBu, hn2', wrap_i64, getD_int, i1, i2, i3, tdiv_pos', tmod_pos']
          obtain ⟨P, Vl, Ul, fP, fVl0, fVl1, fUl0, fUl1, fV, fW, fWB, fW0, ftop, fz⟩ := window_facts hVc.1 hdU' hV2 (by omega) hwin
          obtain ⟨q, hq⟩ : ∃ q, q = valL (U'.drop j) / valL V := ⟨_, rfl⟩
          have hq0 : 0 ≤ q := by rw [hq]; exact Int.ediv_nonneg fW0 (Int.le_of_lt hVpos)
          have hqB : q < 1000000000 := by rw [hq]; exact Int.ediv_lt_of_lt_mul hVpos fWB
          generalize hv1 : V.getD (V.length - 1) 0 = v1 at *
          generalize hv2 : V.getD (V.length - 2) 0 = v2 at *
          generalize ha1 : U'.getD (j + V.length) 0 = u1 at *
          generalize ha2 : U'.getD (j + V.length - 1) 0 = u2 at *
          generalize ha3 : U'.getD (j + V.length - 2) 0 = u3 at *
          have hg2 : ∀ g r : Int, g * v1 + r = u1 * 1000000000 + u2 → 0 ≤ r → g < 2000000000 := by
            intro g r hgr hr
            apply Int.lt_of_not_ge
            intro h
            have := Int.mul_le_mul_of_nonneg_right h (show 0 ≤ v1 by omega)
            omega
          have hdm := Int.mul_ediv_add_emod (u1 * 1000000000 + u2) v1
          have hr0 := Int.emod_nonneg (u1 * 1000000000 + u2) (show v1 ≠ 0 by omega)
          have hr1 := Int.emod_lt_of_pos (u1 * 1000000000 + u2) (show 0 < v1 by omega)
          have hg0 : 0 ≤ (u1 * 1000000000 + u2) / v1 := Int.ediv_nonneg (by omega) (by omega)
          have hqg : q ≤ (u1 * 1000000000 + u2) / v1 := by
            apply Int.le_ediv_of_mul_le (by omega)
            have h1 : q * valL V ≤ valL (U'.drop j) := by rw [hq]; exact Int.ediv_mul_le _ (by omega)
            rw [fV, fW] at h1
            apply Int.le_of_not_gt
            intro h
            have h2 : (u1 * 1000000000 + u2) * 1000000000 + 1000000000 ≤ q * (v1 * 1000000000 + v2) := by
              have h3 := Int.mul_nonneg hq0 b2.1
              have h4 : q * (v1 * 1000000000 + v2) = q * v1 * 1000000000 + q * v2 := by grind
              omega
            have h5 := Int.mul_le_mul_of_nonneg_right h2 (Int.le_of_lt fP)
            have h6 := Int.mul_nonneg hq0 fVl0
            have h7 : q * ((v1 * 1000000000 + v2) * P + Vl) = q * (v1 * 1000000000 + v2) * P + q * Vl := by grind
            have h8 : ((u1 * 1000000000 + u2) * 1000000000 + 1000000000) * P ≥ ((u1 * 1000000000 + u2) * 1000000000 + u3) * P + P := by
              have h9 : ((u1 * 1000000000 + u2) * 1000000000 + u3 + 1) * P ≤ ((u1 * 1000000000 + u2) * 1000000000 + 1000000000) * P := Int.mul_le_mul_of_nonneg_right (by omega) (Int.le_of_lt fP)
              have h10 : ((u1 * 1000000000 + u2) * 1000000000 + u3 + 1) * P = ((u1 * 1000000000 + u2) * 1000000000 + u3) * P + P := by grind
              omega
            omega
          refine Sat.mono (Q := fun xt e' σ' => xt = .exit 4 ∧ ∃ g : Int, e' 0 = sl intRow x ∧ e' 1 = sl intRow y ∧ e' 8 = .ps [[.lit (.int .i64 d)]] ∧ e' 9 = .os k 0 U.length ∧ e' 10 = sl intRow V ∧ e' 11 = .lit (.int .i64 V.length) ∧ e' 12 = .os σ1.n 0 (U.length - V.length) ∧ e' 13 = .lit (.int .i64 (j : Int)) ∧ e' 15 = .lit (.int .i64 g) ∧
            q ≤ g ∧ g ≤ q + 1 ∧ g < 1000000000 ∧ σ' = σ2) ?_ ?_
          · refine Sat.loopW (fun (t : Nat) e' σ' => ∃ g r : Int, t = g.toNat ∧ e' 0 = sl intRow x ∧ e' 1 = sl intRow y ∧ e' 8 = .ps [[.lit (.int .i64 d)]] ∧ e' 9 = .os k 0 U.length ∧ e' 10 = sl intRow V ∧ e' 11 = .lit (.int .i64 V.length) ∧ e' 12 = .os σ1.n 0 (U.length - V.length) ∧ e' 13 = .lit (.int .i64 (j : Int)) ∧ e' 15 = .lit (.int .i64 g) ∧ e' 16 = .lit (.int .i64 r) ∧
              g * v1 + r = u1 * 1000000000 + u2 ∧ q ≤ g ∧ 0 ≤ r ∧ r < 1000000000 ∧ σ' = σ2) (fun t => t) _ rfl ⟨(u1 * 1000000000 + u2) / v1, (u1 * 1000000000 + u2) % v1, rfl, ?_⟩ ?_
            · have hg2' := hg2 _ _ (by rw [Int.mul_comm ((u1 * 1000000000 + u2) / v1) v1]; exact hdm) hr0
              simp -implicitDefEqProofs (disch := (first | omega | (simp only [go_sem] <;> omega) | fail)) only [go_sem, simprocAttr, h0, h1, h8, h9, h10, h11, h12, h13', wrap_i64]
              exact ⟨by rw [Int.mul_comm ((u1 * 1000000000 + u2) / v1) v1]; exact hdm, hqg, hr0, by omega⟩
            · clear h0 h1 h8 h9 h10 h11 h12 h13 h13'
              rintro t e3 σ3 ⟨g, r, rfl, h0, h1, h8, h9, h10, h11, h12, h13, h15, h16, hgr, hqg', hr0', hr1', rfl⟩
              have hgb := hg2 g r hgr hr0'
              have hgb0 : 0 ≤ g := by omega
              have hgv : 0 ≤ g * v2 ∧ g * v2 ≤ 2000000000 * 1000000000 := by
                refine ⟨Int.mul_nonneg hgb0 b2.1, ?_⟩
                have h1 : g * v2 ≤ 2000000000 * v2 := Int.mul_le_mul_of_nonneg_right (by omega) b2.1
                omega
              have hexit : ∀ g' r' : Int, g' * v1 + r' = u1 * 1000000000 + u2 → 0 ≤ g' → 1000000000 ≤ r' → g' ≤ q + 1 ∧ g' < 1000000000 := by
                intro g' r' hgr' hg0' hr'
                have hlt := guess_lt b1p ftop hgr' hr'
                refine ⟨?_, hlt⟩
                have h1 : g' * v2 ≤ 1000000000 * v2 := Int.mul_le_mul_of_nonneg_right (by omega) b2.1
                rw [hq]
                exact guess_end fV fW fVl0 fVl1 fUl0 fP b1p b2.1 hgr' hg0' (by omega) (by omega)
              have hdec : (g - 1) * v1 + (r + v1) = u1 * 1000000000 + u2 := by rw [← hgr]; grind
              simp -implicitDefEqProofs (disch := (first | omega | (simp only [go_sem] <;> omega) | fail)) only [go_sem, simprocAttr]
              refine Sat.drawn0 [] mixed (by kernel_rfl) ?_
              by_cases hbig : 1000000000 ≤ g
              · have hqlt : q < g := by rw [hq]; exact guess_big hVpos fWB hbig
                by_cases hov : 1000000000 ≤ r + v1
                · obtain ⟨g1, g2⟩ := hexit (g - 1) (r + v1) hdec (by omega) hov
                  simp -implicitDefEqProofs (disch := (first | omega | (simp only [go_sem] <;> omega) | fail)) only [go_sem, simprocAttr, h0, h1, h8, h9, h10, h11, h12, h13, h15, h16, hbig, hov, wrap_i64, getD_int, i3, hv1]
                  exact ⟨g - 1, rfl, by omega, g1, g2⟩
                · simp -implicitDefEqProofs (disch := (first | omega | (simp only [go_sem] <;> omega) | fail)) only [go_sem, simprocAttr, h0, h1, h8, h9, h10, h11, h12, h13, h15, h16, hbig, hov, wrap_i64, getD_int, i3, hv1]
                  exact ⟨(g - 1).toNat, by omega, g - 1, r + v1, rfl, rfl, rfl, hdec, by omega, by omega, by omega⟩
              · by_cases hc2 : r * 1000000000 + u3 < g * v2
                · have hqlt : q < g := by rw [hq]; exact guess_keep fV fW fVl0 fUl1 fP hVpos hgr hgb0 hc2
                  by_cases hov : 1000000000 ≤ r + v1
                  · obtain ⟨g1, g2⟩ := hexit (g - 1) (r + v1) hdec (by omega) hov
                    simp -implicitDefEqProofs (disch := (first | omega | (simp only [go_sem] <;> omega) | fail)) only [go_sem, simprocAttr, h0, h1, h8, h9, h10, h11, h12, h13, h15, h16, hbig, hc2, hov, wrap_i64, getD_int, i3, i4, i5, hv1, hv2, ha3, hBu, hn2']
                    exact ⟨g - 1, rfl, by omega, g1, g2⟩
                  · simp -implicitDefEqProofs (disch := (first | omega | (simp only [go_sem] <;> omega) | fail)) only [go_sem, simprocAttr, h0, h1, h8, h9, h10, h11, h12, h13, h15, h16, hbig, hc2, hov, wrap_i64, getD_int, i3, i4, i5, hv1, hv2, ha3, hBu, hn2']
                    exact ⟨(g - 1).toNat, by omega, g - 1, r + v1, rfl, rfl, rfl, hdec, by omega, by omega, by omega⟩
                · have hend : g ≤ q + 1 := by rw [hq]; exact guess_end fV fW fVl0 fVl1 fUl0 fP b1p b2.1 hgr hgb0 (by omega) (by omega)
                  simp -implicitDefEqProofs (disch := (first | omega | (simp only [go_sem] <;> omega) | fail)) only [go_sem, simprocAttr, h0, h1, h8, h9, h10, h11, h12, h13, h15, h16, hbig, hc2, wrap_i64, getD_int, i3, i4, i5, hv1, hv2, ha3, hBu, hn2']
                  exact ⟨g, rfl, hqg', hend, by omega⟩
          · clear h0 h1 h8 h9 h10 h11 h12 h13 h13'
            rintro xt e3 σ3 ⟨rfl, g, h0, h1, h8, h9, h10, h11, h12, h13, h15, hqg', hgq, hgB, rfl⟩
            have hjn : ((U.length : Int) - (j : Int)).toNat = U.length - j := by omega
            simp -implicitDefEqProofs (disch := (first | omega | (simp only [go_sem] <;> omega) | fail)) only [go_sem, simprocAttr, h0, h1, h8, h9, h10, h11, h12, h13, h15, hBu, hn2', hjn]
            refine callF.plain ?_
            have hAl : (U'.take j).length = j := by simp; omega
            have hDl' : (U'.drop j).length = U.length - j := by simp; omega
            refine ACall.eq_args (l' := [.os k (U'.take j).length (U.length - j), ints V, .lit (.int .i64 g)]) (by rw [hAl]; rfl) ?_
            refine take_ok k (U'.take j) (U'.drop j) V g (U.length - j) hDl'.symm (fun i hi => (hdU'.drop j).getD i) (by have := (hdU'.drop j).getD V.length; omega) hVc.1 ⟨by omega, hgB⟩ (by omega) (by omega) _ _ (by omega) (by rw [List.take_append_drop]; exact hBu) _ fun D tt hDl hD hDv => ?_
            have hzW : valL ((U'.drop j).drop (V.length + 1)) = 0 := by rw [List.drop_drop, ← Nat.add_assoc]; exact fz
            rw [window_val hzW] at hDv
            have hDP : valL D < 1000000000 ^ V.length := by have := valL_lt hD; rw [hDl] at this; exact this
            obtain ⟨wneg, wpos⟩ := window_end hVpos hq fW0 (show g = q ∨ g = q + 1 by omega) (valL_nonneg hD) hDP (valL_bound hVc.1) hDv
            have hAl2 : ∀ B : List Int, (U'.take j ++ B).length = j + B.length := fun B => by simp [hAl]
            by_cases htt : tt < 0
            · obtain ⟨hg1, ht1⟩ := wneg htt
              simp -implicitDefEqProofs (disch := (first | omega | (simp only [go_sem] <;> omega) | fail)) only [go_sem, simprocAttr, h0, h1, h8, h9, h10, h11, h12, h13, h15, hBq, hn2', hjn, htt, wrap_i64]
              refine callF.plain ?_
              refine ACall.eq_args (l' := [.os k (U'.take j).length (U.length - j), ints V]) (by rw [hAl]; rfl) ?_
              have hRl : ((U'.drop j).drop (V.length + 1)).length = U.length - j - (V.length + 1) := by simp; omega
              refine give_ok k (U'.take j) (D ++ tt :: (U'.drop j).drop (V.length + 1)) V (U.length - j) (by rw [List.length_append, List.length_cons, hRl]; omega) (fun i hi => by rw [getD_left (by omega)]; exact hD.getD i) (by rw [getD_at hDl]; omega) hVc.1 (by rw [List.length_append, List.length_cons]; omega) (by rw [List.length_append, List.length_cons, hRl]; omega) _ _ (by simp only [St_put_n]; omega) (by simp -implicitDefEqProofs (disch := (first | omega | (simp only [go_sem] <;> omega) | fail)) only [go_sem, simprocAttr]) _ fun D2 t2 hD2l hD2 hD2v => ?_
              rw [take_at hDl, getD_at hDl] at hD2v
              rw [drop_at hDl]
              have hD2P : valL D2 < 1000000000 ^ V.length := by have := valL_lt hD2; rw [hD2l] at this; exact this
              have hrem : valL D2 + 1000000000 ^ V.length * t2 = valL (U'.drop j) - q * valL V := by rw [hD2v, hDv, hg1]; grind
              have hm0 := Int.emod_nonneg (valL (U'.drop j)) (show valL V ≠ 0 by omega)
              have hm1 := Int.emod_lt_of_pos (valL (U'.drop j)) hVpos
              have hm2 := Int.mul_ediv_add_emod (valL (U'.drop j)) (valL V)
              rw [Int.mul_comm, ← hq] at hm2
              have ht2 : t2 = 0 := window_back (valL_bound hVc.1) (show 0 ≤ valL (U'.drop j) - q * valL V by omega) (by omega) (valL_nonneg hD2) hD2P hrem
              subst ht2
              have hgm : g - 1 = q := by omega
              simp -implicitDefEqProofs (disch := (first | omega | (simp only [go_sem] <;> omega) | fail)) only [go_sem, simprocAttr, h0, h1, h8, h9, h10, h11, h12, h13, h15, hBq, hn2', wrap_i64, hgm]
              obtain ⟨f1, f2, f3, f4, f5⟩ := round_end (D := D2) rfl hAl hdU' rfl hzW hU'l (by omega) hVpos hq hq0 hqB (by omega) hdQ hval hD2l hD2 (by rw [Int.mul_zero, Int.add_zero] at hrem; exact hrem)
              exact ⟨j, by omega, _, Q.set j q, rfl, rfl, rfl, hO2, f1, by simpa using hQl, by omega, f2, f3, f4, f5⟩
            · obtain ⟨rfl, rfl⟩ := wpos htt
              have hjn2 : (j : Int).toNat = j := by omega
              simp -implicitDefEqProofs (disch := (first | omega | (simp only [go_sem] <;> omega) | fail)) only [go_sem, simprocAttr, h0, h1, h8, h9, h10, h11, h12, h13, h15, hBq, hn2', wrap_i64]
              obtain ⟨f1, f2, f3, f4, f5⟩ := round_end (D := D) rfl hAl hdU' rfl hzW hU'l (by omega) hVpos hq hq0 hqB (by omega) hdQ hval hDl hD (by rw [Int.mul_zero, Int.add_zero] at hDv; exact hDv)
              exact ⟨j, by omega, _, Q.set j g, rfl, rfl, rfl, hO2, f1, by simpa using hQl, by omega, f2, f3, f4, f5⟩
        · have ht0 : t = 0 := by omega
          subst ht0
          have hneg : ¬ (0 : Int) ≤ ((0 : Nat) : Int) - 1 := by omega
          simp -implicitDefEqProofs (disch := (first | omega | (simp only [go_sem] <;> omega) | fail)) only [go_sem, simprocAttr, h0, h1, h8, h9, h10, h11, h12, h13]
          refine Sat.fz [k] ?_
          refine Sat.drawn0 [] mixed (by kernel_rfl) ?_
          simp -implicitDefEqProofs (disch := (first | omega | (simp only [go_sem] <;> omega) | fail)) only [go_sem, simprocAttr, h0, h1, h8, h9, h10, h11, h12, h13, hBu, hBq]
          have hUt : U'.take U.length = U' := List.take_of_length_le (by omega)
          rw [hUt]
          simp only [List.drop_zero] at hdQ hval hwin
          refine exQ.intro (trim_ok U' (by omega) _ _ _ ⟨rfl, rfl⟩) ?_
          have hU0 := valL_nonneg hdU'
          have hUv : trimL U' = limbs (valL U').toNat := trimL_eq hdU'
          rw [hUv]
          have hrl : (limbs (valL U').toNat).length ≤ 1000000 := by have := (trimL_take hdU').2; rw [hUv] at this; omega
          have hvr : valL (limbs (valL U').toNat) = valL U' := by rw [valL_limbs]; omega
          simp -implicitDefEqProofs (disch := (first | omega | (simp only [go_sem] <;> omega) | fail)) only [go_sem, simprocAttr]
          refine exQ.intro (overSmall_ok _ d (Dig_limbs _) (by omega) (by omega) hrl _ _ _ ⟨rfl, rfl⟩) ?_
          rw [hvr]
          simp -implicitDefEqProofs (disch := (first | omega | (simp only [go_sem] <;> omega) | fail)) only [go_sem, simprocAttr, h0, h1, h8, h9, h10, h11, h12, h13, hBu, hBq]
          refine callF.plain ?_
          have hQt : Q.take (U.length - V.length) = Q := List.take_of_length_le (by omega)
          have hQ0 := valL_nonneg hdQ
          have hy0 : 0 < valL y := hy.pos (by intro h0; subst h0; simp at hn2)
          have hval' : valL U' + valL y * d * valL Q = valL x * d := by rw [Int.pow_zero, Int.one_mul, hvV] at hval; exact hval
          obtain ⟨hqe, hre⟩ := final_div hy0 (show 0 < d by omega) hval' hU0 (by rw [hvV] at hwin; exact hwin)
          refine trim_num σ1.n (U.length - V.length) Q (valL Q).toNat _ _ (by simp only [fzS_one, St_put_n]; omega) (by simp -implicitDefEqProofs (disch := (first | omega | (simp only [go_sem] <;> omega) | fail)) only [go_sem, simprocAttr, hBq, hn2']) (by omega) (by omega) (by rw [hQt]; exact hdQ) (by rw [hQt]; omega) _ fun hle hcut => ?_
          rw [← hqe, ← hre] at h
          simp -implicitDefEqProofs (disch := (first | omega | (simp only [go_sem] <;> omega) | fail)) only [go_sem, simprocAttr, h0, h1, h8, h9, h10, h11, h12, h13, hBu, hBq, hn2', hcut, hO2]
          exact h
end Go.Proofs.Qqz
