/- Contracts: the reference's long division and greatest common divisor. -/
import Derived.Test.YtanoekhdoelkbaaGreatSpb
set_option linter.unusedSimpArgs false
set_option linter.unusedVariables false
namespace Go.Proofs.Qqz
open Go

theorem flat_cons_int (n : Int) (l : List Int) : Blk.flat 1 ([.lit (.int .i64 n)] :: List.map intRow l) = bl intRow 1 (n :: l) := rfl

set_option maxRecDepth 100000 in
set_option maxHeartbeats 1000000 in
theorem sdiv_ok (a b : Nat) (hb : 0 < b) (hla : (limbs a).length ≤ 10000) (hlb : (limbs b).length ≤ 10000) (e : Env) (σ : St) (K : KT)
    (h : K (.tup [ints (limbs (a / b)), ints (limbs (a % b))]) e σ) : ACall Tryz.prog 137 [ints (limbs a), ints (limbs b)] e σ K := by
  refine ACall.pureW Tryz.func137 rfl Tryz.ntmps137 Tryz.results137 rfl rfl rfl ?_
  by_cases h1 : (limbs b).length = 1
  · have h1' : ((limbs b).length : Int) = 1 := by omega
    have hbB : b < 1000000000 := by
      have := (limbs_len_iff b 1).1 (by omega)
      omega
    have hbl := limbs_one hb hbB
    have hg : (limbs b).getD 0 0 = b := by rw [hbl]; rfl
    simp -implicitDefEqProofs (disch := (first | omega | (simp only [go_sem] <;> omega) | fail)) only [go_sem, simprocAttr, h1', getD_int, hg]
    refine callF.plain (ssmall_ok (limbs a) b (Dig_limbs a) (by omega) (by omega) (by omega) _ _ _ ?_)
    rw [valL_limbs, ← Int.natCast_ediv, ← Int.natCast_emod, Int.toNat_natCast]
    simp -implicitDefEqProofs (disch := (first | omega | (simp only [go_sem] <;> omega) | fail)) only [go_sem, simprocAttr]
    refine callF.plain (snatOf_ok (a % b) (by have := Nat.mod_lt a hb; omega) _ _ _ ?_)
    simp -implicitDefEqProofs (disch := (first | omega | (simp only [go_sem] <;> omega) | fail)) only [go_sem, simprocAttr]
    exact h
  have h1' : ¬ ((limbs b).length : Int) = 1 := by omega
  have hd := Dig_limbs a
  simp -implicitDefEqProofs (disch := (first | omega | (simp only [go_sem] <;> omega) | fail)) only [go_sem, simprocAttr, h1', wrap_i64]
  refine Sat.fz [σ.n + 1] ?_
  refine Sat.loopW (fun (t : Nat) e' σ' => ∃ L R, e' 0 = sl intRow (limbs a) ∧ e' 1 = sl intRow (limbs b) ∧ e' 8 = .os σ.n 0 (limbs a).length ∧ e' 9 = ints (limbs R) ∧ e' 10 = .lit (.int .i64 ((t : Int) - 1)) ∧ t ≤ (limbs a).length ∧
    σ.n < σ'.n ∧ σ'.h σ.n = bl intRow 1 L ∧ Old σ σ' ∧ L.length = (limbs a).length ∧ Dig (L.drop t) ∧ R < b ∧ valL ((limbs a).drop t) = b * valL (L.drop t) + R ∧ ∀ j, j < t → L.getD j 0 = 0) (fun t => t) (limbs a).length rfl ?_ ?_
  · simp -implicitDefEqProofs (disch := (first | omega | (simp only [go_sem] <;> omega) | fail)) only [go_sem, simprocAttr]
    refine ⟨List.replicate (limbs a).length 0, 0, by rw [limbs_zero]; rfl, Nat.le_refl _, ?_⟩
    refine ⟨by omega, rfl, by simp, ?_, hb, ?_, fun j _ => ?_⟩
    · rw [List.drop_of_length_le (by simp)]; exact Dig.nil
    · rw [List.drop_of_length_le (by simp), List.drop_of_length_le (by simp)]; simp [valL]
    · simp only [List.getD, List.getElem?_replicate]; split <;> rfl
  · rintro t e1 σ1 ⟨L, R, h0, h1, h8, h9, h10, ht, hn, hB, hO, hL, hdL, hR, hv, hz⟩
    by_cases hpos : 0 < t
    · obtain ⟨t, rfl⟩ : ∃ t', t = t' + 1 := ⟨t - 1, by omega⟩
      have hpos' : (0 : Int) ≤ ((t + 1 : Nat) : Int) - 1 := by omega
      have hn1 := toNat_pred hpos
      have hxt := hd.getD t
      have hRl : (limbs R).length ≤ 10000 := len_le (Nat.le_of_lt hR) hlb
      obtain ⟨R', hR'⟩ : ∃ R' : Nat, (R' : Int) = (limbs a).getD t 0 + 1000000000 * R := ⟨((limbs a).getD t 0 + 1000000000 * R).toNat, by omega⟩
      have htr : trimL ((limbs a).getD t 0 :: limbs R) = limbs R' := by
        rw [trimL_eq (Dig.cons.2 ⟨hxt, Dig_limbs R⟩), valL, valL_limbs, ← hR', Int.toNat_natCast]
      have hRB : R' < 1000000000 * b := by omega
      have hRl' : (limbs R').length ≤ 10001 := by
        have h1 := len_le (Nat.le_of_lt hRB) (len_mul (show (limbs 1000000000).length ≤ 2 from limbs_length_le _ _ (by omega)) hlb)
        have h2 := (trimL_take (Dig.cons.2 ⟨hxt, Dig_limbs R⟩)).2
        rw [htr] at h2; simp at h2; omega
      have hvd := valL_drop (l := limbs a) (t := t) (by omega)
      have hQd : valL (L.drop t) = 1000000000 * valL (L.drop (t + 1)) := by
        rw [valL_drop (by omega), hz t (by omega)]; omega
      simp -implicitDefEqProofs (disch := (first | omega | (simp only [go_sem] <;> omega) | fail)) only [go_sem, simprocAttr, h0, h1, h8, h9, h10, hpos', hn1, Nat.add_sub_cancel, getD_int, wrap_i64, cells_ok_ints, flat_cons_int]
      refine callF.fz [σ1.n + 1] ?_
      have htk : ((limbs a).getD t 0 :: limbs R).take (1 + (limbs R).length) = (limbs a).getD t 0 :: limbs R := List.take_of_length_le (by simp; omega)
      refine ACall.eq_args (l' := [ints ((limbs a).getD t 0 :: limbs R)]) (by simp -implicitDefEqProofs (disch := (first | omega | (simp only [go_sem] <;> omega) | fail)) only [go_sem, simprocAttr, htk]) ?_
      refine strim_ok _ (by simp; omega) _ _ _ ?_
      rw [htr]
      simp -implicitDefEqProofs (disch := (first | omega | (simp only [go_sem] <;> omega) | fail)) only [go_sem, simprocAttr, h0, h1, h8, h9, h10]
      refine callF.plain (scmp_nat R' b (by omega) (by omega) _ _ _ ?_)
      by_cases hlt : R' < b
      · have hc : cmpZ (R' : Int) b < 0 := by rw [cmpZ_lt (by omega)]; omega
        simp -implicitDefEqProofs (disch := (first | omega | (simp only [go_sem] <;> omega) | fail)) only [go_sem, simprocAttr, h0, h1, h8, h9, h10, hc, wrap_i64]
        refine ⟨t, by omega, L, R', rfl, by congr 2; omega, by omega, by omega, hB, hO, hL, ?_, hlt, ?_, fun j hj => hz j (by omega)⟩
        · have h2 : L.getD t 0 = L[t]'(by omega) := getD_elem L t (by omega) 0
          rw [List.drop_eq_getElem_cons (by omega), ← h2, hz t (by omega), Dig.cons]
          exact ⟨by omega, hdL⟩
        · rw [hvd, hv, hQd, hR']; grind
      · have hc : ¬ cmpZ (R' : Int) b < 0 := by unfold cmpZ; rw [if_neg (by omega)]; split <;> omega
        simp -implicitDefEqProofs (disch := (first | omega | (simp only [go_sem] <;> omega) | fail)) only [go_sem, simprocAttr, h0, h1, h8, h9, h10, hc]
        refine callF.plain (sdigit_ok R' b hb (by omega) hRB hlb _ _ _ ?_)
        have hq : R' / b < 1000000000 := Nat.div_lt_of_lt_mul (by rw [Nat.mul_comm]; exact hRB)
        have hql : (limbs (R' / b)).length ≤ 3 := limbs_len_u64 (by omega)
        have hbq : b * (R' / b) ≤ R' := Nat.mul_div_le R' b
        simp -implicitDefEqProofs (disch := (first | omega | (simp only [go_sem] <;> omega) | fail)) only [go_sem, simprocAttr, h0, h1, h8, h9, h10, hB, hn1, Nat.add_sub_cancel]
        refine callF.plain (snatOf_ok (R' / b) (by omega) _ _ _ ?_)
        simp -implicitDefEqProofs (disch := (first | omega | (simp only [go_sem] <;> omega) | fail)) only [go_sem, simprocAttr, h0, h1, h8, h9, h10]
        refine callF.plain (smul_nat b (R' / b) (by omega) (by omega) _ _ _ ?_)
        simp -implicitDefEqProofs (disch := (first | omega | (simp only [go_sem] <;> omega) | fail)) only [go_sem, simprocAttr, h0, h1, h8, h9, h10]
        refine callF.plain (ssub_nat R' (b * (R' / b)) hbq (by omega) _ _ _ ?_)
        simp -implicitDefEqProofs (disch := (first | omega | (simp only [go_sem] <;> omega) | fail)) only [go_sem, simprocAttr, h0, h1, h8, h9, h10, hn1, Nat.add_sub_cancel, wrap_i64]
        refine ⟨t, by omega, L.set t ((R' / b : Nat) : Int), R' - b * (R' / b), rfl, by congr 2; omega, by omega, by omega, by simp -implicitDefEqProofs (disch := (first | omega | (simp only [go_sem] <;> omega) | fail)) only [go_sem, simprocAttr], by simp -implicitDefEqProofs (disch := (first | omega | (simp only [go_sem] <;> omega) | fail)) only [go_sem, simprocAttr, hO], by simpa using hL, ?_, ?_, ?_, fun j hj => ?_⟩
        · rw [drop_set (by omega), Dig.cons]
          exact ⟨⟨Int.natCast_nonneg _, Int.ofNat_lt.2 hq⟩, hdL⟩
        · have := Nat.mod_lt R' hb
          have h2 := Nat.mod_add_div R' b
          omega
        · rw [drop_set (by omega), valL, hvd, hv, Int.natCast_sub hbq, hR', Int.natCast_mul]; grind
        · rw [getD_set_ne' (by omega)]; exact hz j (by omega)
    · have : t = 0 := by omega
      subst this
      have hneg : ¬ (0 : Int) ≤ ((0 : Nat) : Int) - 1 := by omega
      simp only [List.drop_zero, valL_limbs] at hdL hv
      have hq0 := valL_nonneg hdL
      obtain ⟨Q, hQ⟩ : ∃ Q : Nat, valL L = Q := ⟨(valL L).toNat, by omega⟩
      rw [hQ] at hv
      have hv' : a = b * Q + R := by
        have : ((b * Q : Nat) : Int) = (b : Int) * Q := Int.natCast_mul b Q
        omega
      have hdq : a / b = Q := by rw [hv', Nat.mul_add_div hb, Nat.div_eq_of_lt hR, Nat.add_zero]
      have hdr : a % b = R := by rw [hv', Nat.mul_add_mod, Nat.mod_eq_of_lt hR]
      simp -implicitDefEqProofs (disch := (first | omega | (simp only [go_sem] <;> omega) | fail)) only [go_sem, simprocAttr, h0, h1, h8, h9, h10]
      refine callF.fz [σ.n] ?_
      have hLt : L.take (limbs a).length = L := List.take_of_length_le (by omega)
      refine ACall.eq_args (l' := [ints L]) (by simp -implicitDefEqProofs (disch := (first | omega | (simp only [go_sem] <;> omega) | fail)) only [go_sem, simprocAttr, hB, hLt]) ?_
      refine strim_ok L (by omega) _ _ _ ?_
      rw [trimL_eq hdL, hQ, Int.toNat_natCast]
      rw [hdq, hdr] at h
      simp -implicitDefEqProofs (disch := (first | omega | (simp only [go_sem] <;> omega) | fail)) only [go_sem, simprocAttr, h9, hB, hO]
      exact h

set_option maxRecDepth 100000 in
set_option maxHeartbeats 1000000 in
theorem sgcd_ok (a b : Nat) (hla : (limbs a).length ≤ 60) (hlb : (limbs b).length ≤ 60) (e : Env) (σ : St) (K : KT) (h : K (ints (limbs (Nat.gcd a b))) e σ) : ACall Tryz.prog 101 [ints (limbs a), ints (limbs b)] e σ K := by
  refine ACall.pureW Tryz.func101 rfl Tryz.ntmps101 Tryz.results101 rfl rfl rfl ?_
  simp -implicitDefEqProofs (disch := (first | omega | (simp only [go_sem] <;> omega) | fail)) only [go_sem, simprocAttr, cells_ok_ints]
  refine Sat.fz [σ.n + 1] ?_
  refine Sat.fz [σ.n + 1 + 1 + 1] ?_
  refine Sat.loopW (fun (t : Nat) e' σ' => ∃ a', e' 5 = ints (limbs a') ∧ e' 6 = ints (limbs t) ∧ Nat.gcd a' t = Nat.gcd a b ∧ (limbs a').length ≤ 60 ∧ (limbs t).length ≤ 60 ∧ Old σ σ') (fun t => t) b rfl ?_ ?_
  · simp -implicitDefEqProofs (disch := (first | omega | (simp only [go_sem] <;> omega) | fail)) only [go_sem, simprocAttr]
    have e1 := List.take_of_length_le (Nat.le_refl (limbs a).length)
    have e2 := List.take_of_length_le (Nat.le_refl (limbs b).length)
    exact ⟨a, rfl, rfl, hla, hlb⟩
  rintro t e1 σ1 ⟨a', h5, h6, hg, hl1, hl2, hO⟩
  by_cases ht : 0 < t
  · have ht' : (0 : Int) < (limbs t).length := by have := limbs_len_pos ht; omega
    by_cases hc : (limbs a').length < 3 ∧ (limbs t).length < 3
    · have c1 : ((limbs a').length : Int) < 3 := by omega
      have c2 : ((limbs t).length : Int) < 3 := by omega
      have b1 := (limbs_len_iff a' 2).1 (by omega)
      have b2 := (limbs_len_iff t 2).1 (by omega)
      simp -implicitDefEqProofs (disch := (first | omega | (simp only [go_sem] <;> omega) | fail)) only [go_sem, simprocAttr, h5, h6, ht', c1, c2]
      refine callF.plain (snatToInt_ok a' (by omega) _ _ _ ?_)
      simp -implicitDefEqProofs (disch := (first | omega | (simp only [go_sem] <;> omega) | fail)) only [go_sem, simprocAttr, h5, h6]
      refine callF.plain (snatToInt_ok t (by omega) _ _ _ ?_)
      simp -implicitDefEqProofs (disch := (first | omega | (simp only [go_sem] <;> omega) | fail)) only [go_sem, simprocAttr, h5, h6]
      refine callF.plain (splain_ok a' t (by omega) (by omega) _ _ _ ?_)
      rw [← hg] at h
      simp -implicitDefEqProofs (disch := (first | omega | (simp only [go_sem] <;> omega) | fail)) only [go_sem, simprocAttr, hO]
      exact h
    · by_cases c1 : ((limbs a').length : Int) < 3
      · have c2 : ¬ ((limbs t).length : Int) < 3 := by omega
        simp -implicitDefEqProofs (disch := (first | omega | (simp only [go_sem] <;> omega) | fail)) only [go_sem, simprocAttr, h5, h6, ht', c1, c2]
        refine callF.plain (sdiv_ok a' t ht (by omega) (by omega) _ _ _ ?_)
        simp -implicitDefEqProofs (disch := (first | omega | (simp only [go_sem] <;> omega) | fail)) only [go_sem, simprocAttr, h5, h6]
        refine ⟨a' % t, Nat.mod_lt _ ht, t, rfl, rfl, ?_, hl2, len_le (Nat.le_of_lt (Nat.mod_lt _ ht)) hl2, hO⟩
        rw [← hg, Nat.gcd_comm a' t, Nat.gcd_rec t a', Nat.gcd_comm]
      · simp -implicitDefEqProofs (disch := (first | omega | (simp only [go_sem] <;> omega) | fail)) only [go_sem, simprocAttr, h5, h6, ht', c1]
        refine callF.plain (sdiv_ok a' t ht (by omega) (by omega) _ _ _ ?_)
        simp -implicitDefEqProofs (disch := (first | omega | (simp only [go_sem] <;> omega) | fail)) only [go_sem, simprocAttr, h5, h6]
        refine ⟨a' % t, Nat.mod_lt _ ht, t, rfl, rfl, ?_, hl2, len_le (Nat.le_of_lt (Nat.mod_lt _ ht)) hl2, hO⟩
        rw [← hg, Nat.gcd_comm a' t, Nat.gcd_rec t a', Nat.gcd_comm]
  · have ht0 : t = 0 := by omega
    subst ht0
    have ht' : ¬ (0 : Int) < (limbs 0).length := by rw [limbs_zero]; simp
    simp -implicitDefEqProofs (disch := (first | omega | (simp only [go_sem] <;> omega) | fail)) only [go_sem, simprocAttr, h5, h6, ht', hO]
    rw [Nat.gcd_zero_right] at hg
    rw [← hg] at h
    exact h
end Go.Proofs.Qqz
namespace Go.Proofs.Qqz
open Go

set_option maxRecDepth 100000 in
set_option maxHeartbeats 1000000 in
theorem smake_ok (neg : Bool) (m : Nat) (hm : (limbs m).length ≤ 60) (e : Env) (σ : St) (K : KT) (h : K (bigA (sgn neg m)) e σ) : ACall Tryz.prog 128 [.lit (.bool neg), ints (limbs m)] e σ K := by
  unfold bigA at h
  rw [sgn_natAbs, sgn_neg] at h
  refine ACall.pureW Tryz.func128 rfl Tryz.ntmps128 Tryz.results128 rfl rfl rfl ?_
  have ht : (limbs m).take (limbs m).length = limbs m := List.take_of_length_le (Nat.le_refl _)
  simp -implicitDefEqProofs (disch := (first | omega | (simp only [go_sem] <;> omega) | fail)) only [go_sem, simprocAttr]
  refine callF.plain (scap_ok m hm _ _ _ ?_)
  cases neg with
  | false =>
    simp -implicitDefEqProofs (disch := (first | omega | (simp only [go_sem] <;> omega) | fail)) only [go_sem, simprocAttr, cells_ok_ints, ht]
    simp at h
    exact h
  | true =>
    by_cases hm : 0 < m
    · have hm' : (0 : Int) < (limbs m).length := by have := limbs_len_pos hm; omega
      simp -implicitDefEqProofs (disch := (first | omega | (simp only [go_sem] <;> omega) | fail)) only [go_sem, simprocAttr, hm', cells_ok_ints, ht]
      simp [hm] at h
      exact h
    · have hm' : ¬ (0 : Int) < (limbs m).length := by have := (limbs_nil (n := m)).2 (by omega); omega
      simp -implicitDefEqProofs (disch := (first | omega | (simp only [go_sem] <;> omega) | fail)) only [go_sem, simprocAttr, hm', cells_ok_ints, ht]
      simp [hm] at h
      exact h

set_option maxRecDepth 100000 in
set_option maxHeartbeats 1000000 in
theorem sbigAdd_ok (a b : Int) (hla : (limbs a.natAbs).length ≤ 59) (hlb : (limbs b.natAbs).length ≤ 59) (e : Env) (σ : St) (K : KT) (h : K (bigA (a + b)) e σ) : ACall Tryz.prog 132 [bigA a, bigA b] e σ K := by
  unfold bigA
  refine ACall.pureW Tryz.func132 rfl Tryz.ntmps132 Tryz.results132 rfl rfl rfl ?_
  by_cases hs : decide (a < 0) = decide (b < 0)
  · have hs' : (decide (a < 0) == decide (b < 0)) = true := by simp [hs]
    simp -implicitDefEqProofs (disch := (first | omega | (simp only [go_sem] <;> omega) | fail)) only [go_sem, simprocAttr, hs']
    refine Sat.drawn0 [8] mixed (by kernel_rfl) ?_
    simp -implicitDefEqProofs (disch := (first | omega | (simp only [go_sem] <;> omega) | fail)) only [go_sem, simprocAttr]
    refine exQ.intro (sadd_nat a.natAbs b.natAbs (by omega) (by omega) _ _ _ ⟨rfl, rfl⟩) ?_
    simp -implicitDefEqProofs (disch := (first | omega | (simp only [go_sem] <;> omega) | fail)) only [go_sem, simprocAttr]
    refine exQ.intro (smake_ok _ _ (len_add hla hlb) _ _ _ ⟨rfl, rfl⟩) ?_
    rw [sgn_add_same hs]
    unfold bigA at h ⊢
    simp -implicitDefEqProofs (disch := (first | omega | (simp only [go_sem] <;> omega) | fail)) only [go_sem, simprocAttr]
    exact h
  · have hs' : (decide (a < 0) == decide (b < 0)) = false := by simpa using hs
    simp -implicitDefEqProofs (disch := (first | omega | (simp only [go_sem] <;> omega) | fail)) only [go_sem, simprocAttr, hs']
    refine callF.plain (scmp_nat a.natAbs b.natAbs (by omega) (by omega) _ _ _ ?_)
    by_cases hc : b.natAbs ≤ a.natAbs
    · have hc' : (0 : Int) ≤ cmpZ a.natAbs b.natAbs := cmpZ_ge.2 (by omega)
      simp -implicitDefEqProofs (disch := (first | omega | (simp only [go_sem] <;> omega) | fail)) only [go_sem, simprocAttr, hc']
      refine Sat.drawn0 [8] mixed (by kernel_rfl) ?_
      simp -implicitDefEqProofs (disch := (first | omega | (simp only [go_sem] <;> omega) | fail)) only [go_sem, simprocAttr]
      refine exQ.intro (ssub_nat a.natAbs b.natAbs hc (by omega) _ _ _ ⟨rfl, rfl⟩) ?_
      simp -implicitDefEqProofs (disch := (first | omega | (simp only [go_sem] <;> omega) | fail)) only [go_sem, simprocAttr]
      refine exQ.intro (smake_ok _ _ (len_le (Nat.sub_le _ _) (by omega)) _ _ _ ⟨rfl, rfl⟩) ?_
      rw [sgn_sub_diff hs hc]
      unfold bigA at h ⊢
      simp -implicitDefEqProofs (disch := (first | omega | (simp only [go_sem] <;> omega) | fail)) only [go_sem, simprocAttr]
      exact h
    · have hc' : ¬ (0 : Int) ≤ cmpZ a.natAbs b.natAbs := by rw [cmpZ_ge]; omega
      simp -implicitDefEqProofs (disch := (first | omega | (simp only [go_sem] <;> omega) | fail)) only [go_sem, simprocAttr, hc']
      refine Sat.drawn0 [8] mixed (by kernel_rfl) ?_
      simp -implicitDefEqProofs (disch := (first | omega | (simp only [go_sem] <;> omega) | fail)) only [go_sem, simprocAttr]
      refine exQ.intro (ssub_nat b.natAbs a.natAbs (by omega) (by omega) _ _ _ ⟨rfl, rfl⟩) ?_
      simp -implicitDefEqProofs (disch := (first | omega | (simp only [go_sem] <;> omega) | fail)) only [go_sem, simprocAttr]
      refine exQ.intro (smake_ok _ _ (len_le (Nat.sub_le _ _) (by omega)) _ _ _ ⟨rfl, rfl⟩) ?_
      rw [sgn_sub_diff (fun h => hs h.symm) (by omega), Int.add_comm]
      unfold bigA at h ⊢
      simp -implicitDefEqProofs (disch := (first | omega | (simp only [go_sem] <;> omega) | fail)) only [go_sem, simprocAttr]
      exact h

theorem limbs_min : limbs 9223372036854775808 = [854775808, 223372036, 9] := by
  rw [limbs_pos (by omega), limbs_pos (by omega), limbs_one (by omega) (by omega)]
  rfl

set_option maxRecDepth 100000 in
set_option maxHeartbeats 1000000 in
theorem sbigOf_ok (n : Int) (h0 : -9223372036854775808 ≤ n) (h1 : n ≤ 9223372036854775807) (e : Env) (σ : St) (K : KT) (h : K (bigA n) e σ) : ACall Tryz.prog 95 [.lit (.int .i64 n)] e σ K := by
  refine ACall.pureW Tryz.func95 rfl Tryz.ntmps95 Tryz.results95 rfl rfl rfl ?_
  have hl3 := limbs_len_u64 (n := n.natAbs) (by omega)
  by_cases hm : n = -9223372036854775808
  · simp -implicitDefEqProofs (disch := (first | omega | (simp only [go_sem] <;> omega) | fail)) only [go_sem, simprocAttr, hm]
    refine callF.fz [σ.n + 1] ?_
    refine ACall.eq_args (l' := [.lit (.bool true), ints (limbs 9223372036854775808)]) (by rw [limbs_min]; simp -implicitDefEqProofs (disch := (first | omega | (simp only [go_sem] <;> omega) | fail)) only [go_sem, simprocAttr]; rfl) ?_
    refine smake_ok true 9223372036854775808 (by rw [limbs_min]; simp) _ _ _ ?_
    have hs : sgn true 9223372036854775808 = n := by simp only [sgn, if_true]; omega
    rw [hs]
    unfold bigA at h ⊢
    simp -implicitDefEqProofs (disch := (first | omega | (simp only [go_sem] <;> omega) | fail)) only [go_sem, simprocAttr]
    exact h
  · by_cases hn : n < 0
    · simp -implicitDefEqProofs (disch := (first | omega | (simp only [go_sem] <;> omega) | fail)) only [go_sem, simprocAttr, hm, hn, wrap_i64]
      refine callF.plain ?_
      refine ACall.eq_args (l' := [.lit (.int .i64 ((n.natAbs : Nat) : Int))]) (by simp -implicitDefEqProofs (disch := (first | omega | (simp only [go_sem] <;> omega) | fail)) only [go_sem, simprocAttr]; rw [show 0 - n = ((n.natAbs : Nat) : Int) by omega]) ?_
      refine snatOf_ok _ (by omega) _ _ _ ?_
      simp -implicitDefEqProofs (disch := (first | omega | (simp only [go_sem] <;> omega) | fail)) only [go_sem, simprocAttr]
      refine callF.plain (smake_ok true n.natAbs (by omega) _ _ _ ?_)
      have hs : sgn true n.natAbs = n := by simp only [sgn, if_true]; omega
      rw [hs]
      unfold bigA at h ⊢
      simp -implicitDefEqProofs (disch := (first | omega | (simp only [go_sem] <;> omega) | fail)) only [go_sem, simprocAttr]
      exact h
    · simp -implicitDefEqProofs (disch := (first | omega | (simp only [go_sem] <;> omega) | fail)) only [go_sem, simprocAttr, hm, hn, wrap_i64]
      refine callF.plain ?_
      refine ACall.eq_args (l' := [.lit (.int .i64 ((n.natAbs : Nat) : Int))]) (by simp -implicitDefEqProofs (disch := (first | omega | (simp only [go_sem] <;> omega) | fail)) only [go_sem, simprocAttr]; rw [show n = ((n.natAbs : Nat) : Int) by omega]; rfl) ?_
      refine snatOf_ok _ (by omega) _ _ _ ?_
      simp -implicitDefEqProofs (disch := (first | omega | (simp only [go_sem] <;> omega) | fail)) only [go_sem, simprocAttr]
      refine callF.plain (smake_ok false n.natAbs (by omega) _ _ _ ?_)
      have hs : sgn false n.natAbs = n := by simp only [sgn]; simp; omega
      rw [hs]
      unfold bigA at h ⊢
      simp -implicitDefEqProofs (disch := (first | omega | (simp only [go_sem] <;> omega) | fail)) only [go_sem, simprocAttr]
      exact h

set_option maxRecDepth 100000 in
set_option maxHeartbeats 1000000 in
theorem swhole_ok (n : Int) (h0 : -9223372036854775808 ≤ n) (h1 : n ≤ 9223372036854775807) (e : Env) (σ : St) (K : KT) (h : K (ratV (wholeF n).rv) e σ) : ACall Tryz.prog 44 [.lit (.int .i64 n)] e σ K := by
  refine ACall.pureW Tryz.func44 rfl Tryz.ntmps44 Tryz.results44 rfl rfl rfl ?_
  simp -implicitDefEqProofs (disch := (first | omega | (simp only [go_sem] <;> omega) | fail)) only [go_sem, simprocAttr]
  refine callF.plain (sbigOf_ok n h0 h1 _ _ _ ?_)
  simp only [wholeF, Fr.rv, ratV, limbs_1] at h
  unfold bigA
  simp -implicitDefEqProofs (disch := (first | omega | (simp only [go_sem] <;> omega) | fail)) only [go_sem, simprocAttr]
  exact h

set_option maxRecDepth 100000 in
set_option maxHeartbeats 1000000 in
theorem sbigOk_ok (neg : Bool) (l : List Int) (hl : l.length ≤ 1000000000) (e : Env) (σ : St) (K : KT) (h : K (.lit (.bool (bigOkB neg l))) e σ) : ACall Tryz.prog 98 [.agg [.lit (.bool neg), ints l]] e σ K := by
  refine ACall.pureW Tryz.func98 rfl Tryz.ntmps98 Tryz.results98 rfl rfl rfl ?_
  simp -implicitDefEqProofs (disch := (first | omega | (simp only [go_sem] <;> omega) | fail)) only [go_sem, simprocAttr]
  refine callF.plain (snatOk_ok l hl _ _ _ ?_)
  unfold bigOkB at h
  cases hb : natOkB l with
  | false =>
    rw [hb] at h
    simp -implicitDefEqProofs (disch := (first | omega | (simp only [go_sem] <;> omega) | fail)) only [go_sem, simprocAttr]
    exact h
  | true =>
    rw [hb] at h
    cases neg with
    | false =>
      simp -implicitDefEqProofs (disch := (first | omega | (simp only [go_sem] <;> omega) | fail)) only [go_sem, simprocAttr]
      exact h
    | true =>
      by_cases hz : l = []
      · have hz' : ¬ (0 : Int) < l.length := by rw [hz]; simp
        simp [hz] at h
        simp -implicitDefEqProofs (disch := (first | omega | (simp only [go_sem] <;> omega) | fail)) only [go_sem, simprocAttr, hz']
        exact h
      · have hz' : (0 : Int) < l.length := by have := List.length_pos_iff.2 hz; omega
        simp [hz] at h
        simp -implicitDefEqProofs (disch := (first | omega | (simp only [go_sem] <;> omega) | fail)) only [go_sem, simprocAttr, hz']
        exact h
end Go.Proofs.Qqz
