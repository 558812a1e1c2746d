/- Contracts: the reference's differences, quotients, divisors. -/
import Derived.Test.YtanoekhdoelkbaaGreatSpa
set_option linter.unusedSimpArgs false
set_option linter.unusedVariables false
namespace Go.Proofs.Qqz
open Go

set_option maxRecDepth 100000 in
set_option maxHeartbeats 1000000 in
theorem ssub_ok (x y : List Int) (hx : Dig x) (hy : Dig y) (hlx : x.length ≤ 1000000) (hly : y.length ≤ x.length) (hle : valL y ≤ valL x) (e : Env) (σ : St) (K : KT) (h : K (ints (limbs (valL x - valL y).toNat)) e σ) : ACall Tryz.prog 160 [ints x, ints y] e σ K := by
  refine ACall.pureW Tryz.func160 rfl Tryz.ntmps160 Tryz.results160 rfl rfl rfl ?_
  simp -implicitDefEqProofs (disch := (first | omega | (simp only [go_sem] <;> omega) | fail)) only [go_sem, simprocAttr]
  refine Sat.loopW (fun (t : Nat) e' σ' => ∃ i k D c, t = x.length - i ∧ i ≤ x.length ∧ e' 0 = sl intRow x ∧ e' 1 = sl intRow y ∧ e' 5 = .os k 0 i ∧ e' 6 = .lit (.int .i64 c) ∧ e' 11 = .lit (.int .i64 x.length) ∧ e' 12 = .lit (.int .i64 (i : Nat)) ∧
    σ.n ≤ k ∧ k < σ'.n ∧ σ'.h k = bl intRow 1 D ∧ Old σ σ' ∧ D.length = i ∧ Dig D ∧ 0 ≤ c ∧ c ≤ 1 ∧ valL D + 1000000000 ^ i * (-c) = valL (x.take i) + -valL (y.take i)) (fun t => t) x.length rfl ?_ ?_
  · simp -implicitDefEqProofs (disch := (first | omega | (simp only [go_sem] <;> omega) | fail)) only [go_sem, simprocAttr]
    exact ⟨0, σ.n, [], 0, by omega, by omega, rfl, rfl, rfl, by omega, by omega, by simp -implicitDefEqProofs (disch := (first | omega | (simp only [go_sem] <;> omega) | fail)) only [go_sem, simprocAttr]; rfl, rfl, Dig.nil, by omega, by omega, by simp [valL]⟩
  · rintro t e1 σ1 ⟨i, k, D, c, rfl, hi, h0, h1, h5, h6, h11, h12, hk, hkn, hB, hO, hD, hd, hc0, hc1, hv⟩
    have hvx := valL_take_succ x i
    have hvy := valL_take_succ y i
    have hDt : D.take i = D := List.take_of_length_le (by omega)
    by_cases hlt : i < x.length
    · have hlt' : (i : Int) < x.length := by omega
      have hxi := hx.getD i
      have hyi := hy.getD i
      have hy0 : ¬ i < y.length → y.getD i 0 = 0 := fun h => by simp [List.getD, List.getElem?_eq_none (Nat.le_of_not_lt h)]
      have hdig : ∀ d k : Int, x.getD i 0 - c - y.getD i 0 = d - 1000000000 * k → 0 ≤ d → d < 1000000000 → (D ++ [d]).length = i + 1 ∧ Dig (D ++ [d]) ∧ valL (D ++ [d]) + 1000000000 ^ (i + 1) * (-k) = valL (x.take (i + 1)) + -valL (y.take (i + 1)) := by
        intro d k hdk hd0 hd1
        refine ⟨by simp [hD], hd.snoc hd0 hd1, ?_⟩
        rw [hvx, hvy, Int.neg_add, ← Int.mul_neg]
        exact snoc_step hD hv (by omega)
      by_cases hiy : i < y.length
      · have fy : (i : Int) < y.length := by omega
        by_cases hneg : x.getD i 0 - c - y.getD i 0 < 0
        · skip
          obtain ⟨g1, g2, g3⟩ := hdig (x.getD i 0 - c - y.getD i 0 + 1000000000) 1 (by omega) (by omega) (by omega)
          simp -implicitDefEqProofs (disch := (first | omega | (simp only [go_sem] <;> omega) | fail)) only [go_sem, simprocAttr, h0, h1, h5, h6, h11, h12, hlt', fy, hneg, hB, hDt, wrap_i64, getD_int]
          exact ⟨by omega, x.length - (i + 1), by omega, i + 1, σ1.n + 1, D ++ [x.getD i 0 - c - y.getD i 0 + 1000000000], 1, rfl, by omega, rfl, rfl, rfl, by omega, by omega, by simp -implicitDefEqProofs (disch := (first | omega | (simp only [go_sem] <;> omega) | fail)) only [go_sem, simprocAttr], by simp -implicitDefEqProofs (disch := (first | omega | (simp only [go_sem] <;> omega) | fail)) only [go_sem, simprocAttr, hO], g1, g2, by omega, by omega, g3⟩
        · skip
          obtain ⟨g1, g2, g3⟩ := hdig (x.getD i 0 - c - y.getD i 0) 0 (by omega) (by omega) (by omega)
          simp -implicitDefEqProofs (disch := (first | omega | (simp only [go_sem] <;> omega) | fail)) only [go_sem, simprocAttr, h0, h1, h5, h6, h11, h12, hlt', fy, hneg, hB, hDt, wrap_i64, getD_int]
          exact ⟨by omega, x.length - (i + 1), by omega, i + 1, σ1.n + 1, D ++ [x.getD i 0 - c - y.getD i 0], 0, rfl, by omega, rfl, rfl, rfl, by omega, by omega, by simp -implicitDefEqProofs (disch := (first | omega | (simp only [go_sem] <;> omega) | fail)) only [go_sem, simprocAttr], by simp -implicitDefEqProofs (disch := (first | omega | (simp only [go_sem] <;> omega) | fail)) only [go_sem, simprocAttr, hO], g1, g2, by omega, by omega, g3⟩
      · have fy : ¬ (i : Int) < y.length := by omega
        have := hy0 hiy
        by_cases hneg : x.getD i 0 - c < 0
        · skip
          obtain ⟨g1, g2, g3⟩ := hdig (x.getD i 0 - c + 1000000000) 1 (by omega) (by omega) (by omega)
          simp -implicitDefEqProofs (disch := (first | omega | (simp only [go_sem] <;> omega) | fail)) only [go_sem, simprocAttr, h0, h1, h5, h6, h11, h12, hlt', fy, hneg, hB, hDt, wrap_i64, getD_int]
          exact ⟨by omega, x.length - (i + 1), by omega, i + 1, σ1.n + 1, D ++ [x.getD i 0 - c + 1000000000], 1, rfl, by omega, rfl, rfl, rfl, by omega, by omega, by simp -implicitDefEqProofs (disch := (first | omega | (simp only [go_sem] <;> omega) | fail)) only [go_sem, simprocAttr], by simp -implicitDefEqProofs (disch := (first | omega | (simp only [go_sem] <;> omega) | fail)) only [go_sem, simprocAttr, hO], g1, g2, by omega, by omega, g3⟩
        · skip
          obtain ⟨g1, g2, g3⟩ := hdig (x.getD i 0 - c) 0 (by omega) (by omega) (by omega)
          simp -implicitDefEqProofs (disch := (first | omega | (simp only [go_sem] <;> omega) | fail)) only [go_sem, simprocAttr, h0, h1, h5, h6, h11, h12, hlt', fy, hneg, hB, hDt, wrap_i64, getD_int]
          exact ⟨by omega, x.length - (i + 1), by omega, i + 1, σ1.n + 1, D ++ [x.getD i 0 - c], 0, rfl, by omega, rfl, rfl, rfl, by omega, by omega, by simp -implicitDefEqProofs (disch := (first | omega | (simp only [go_sem] <;> omega) | fail)) only [go_sem, simprocAttr], by simp -implicitDefEqProofs (disch := (first | omega | (simp only [go_sem] <;> omega) | fail)) only [go_sem, simprocAttr, hO], g1, g2, by omega, by omega, g3⟩
    · have hlt' : ¬ (i : Int) < x.length := by omega
      have hie : i = x.length := by omega
      subst hie
      simp -implicitDefEqProofs (disch := (first | omega | (simp only [go_sem] <;> omega) | fail)) only [go_sem, simprocAttr, h0, h1, h5, h6, h11, h12, hlt', hB, hO, wrap_i64]
      refine callF.fz [k] ?_
      rw [List.take_of_length_le (Nat.le_refl x.length), List.take_of_length_le hly] at hv
      have hxx : valL D = (valL x - valL y).toNat := by
        have h1 := valL_nonneg hd
        have h2 := valL_lt hd
        rw [hD] at h2
        generalize (1000000000 : Int) ^ x.length = p at hv h2
        have : c = 0 ∨ c = 1 := by omega
        rcases this with rfl | rfl
        · omega
        · omega
      refine ACall.eq_args (l' := [ints D]) (by simp -implicitDefEqProofs (disch := (first | omega | (simp only [go_sem] <;> omega) | fail)) only [go_sem, simprocAttr, hB, hDt]) ?_
      refine strim_ok D (by omega) _ _ _ ?_
      rw [trimL_eq hd, hxx, Int.toNat_natCast]
      simp -implicitDefEqProofs (disch := (first | omega | (simp only [go_sem] <;> omega) | fail)) only [go_sem, simprocAttr, hB, hO]
      exact h

theorem scmp_nat (a b : Nat) (hla : (limbs a).length ≤ 1000000) (hlb : (limbs b).length ≤ 1000000) (e : Env) (σ : St) (K : KT) (h : K (.lit (.int .i64 (cmpZ a b))) e σ) : ACall Tryz.prog 159 [ints (limbs a), ints (limbs b)] e σ K := by
  refine scmp_ok _ _ (Canon_limbs a) (Canon_limbs b) hla hlb e σ K ?_
  rw [valL_limbs, valL_limbs]; exact h

theorem smul_nat (a b : Nat) (hla : (limbs a).length ≤ 100000) (hlb : (limbs b).length ≤ 100000) (e : Env) (σ : St) (K : KT) (h : K (ints (limbs (a * b))) e σ) : ACall Tryz.prog 134 [ints (limbs a), ints (limbs b)] e σ K := by
  refine smul_ok _ _ (Dig_limbs a) (Dig_limbs b) (by omega) (by omega) e σ K ?_
  rw [valL_limbs, valL_limbs, ← Int.natCast_mul, Int.toNat_natCast]; exact h

theorem sadd_nat (a b : Nat) (hla : (limbs a).length ≤ 100000) (hlb : (limbs b).length ≤ 100000) (e : Env) (σ : St) (K : KT) (h : K (ints (limbs (a + b))) e σ) : ACall Tryz.prog 158 [ints (limbs a), ints (limbs b)] e σ K := by
  refine sadd_ok _ _ (Canon_limbs a) (Canon_limbs b) (by omega) (by omega) e σ K ?_
  rw [valL_limbs, valL_limbs, ← Int.natCast_add, Int.toNat_natCast]; exact h

theorem ssub_nat (a b : Nat) (hab : b ≤ a) (hla : (limbs a).length ≤ 100000) (e : Env) (σ : St) (K : KT) (h : K (ints (limbs (a - b))) e σ) : ACall Tryz.prog 160 [ints (limbs a), ints (limbs b)] e σ K := by
  refine ssub_ok _ _ (Dig_limbs a) (Dig_limbs b) (by omega) (limbs_len_mono hab) (by rw [valL_limbs, valL_limbs]; omega) e σ K ?_
  rw [valL_limbs, valL_limbs, ← Int.natCast_sub hab, Int.toNat_natCast]; exact h

set_option maxRecDepth 100000 in
set_option maxHeartbeats 1000000 in
theorem splain_ok (a b : Nat) (ha : a ≤ 9223372036854775807) (hb : b ≤ 9223372036854775807) (e : Env) (σ : St) (K : KT) (h : K (ints (limbs (Nat.gcd a b))) e σ) : ACall Tryz.prog 136 [.lit (.int .i64 a), .lit (.int .i64 b)] e σ K := by
  refine ACall.pureW Tryz.func136 rfl Tryz.ntmps136 Tryz.results136 rfl rfl rfl ?_
  simp -implicitDefEqProofs (disch := (first | omega | (simp only [go_sem] <;> omega) | fail)) only [go_sem, simprocAttr]
  refine Sat.loopW (fun (t : Nat) e' σ' => ∃ a' : Nat, e' 0 = .lit (.int .i64 a') ∧ e' 1 = .lit (.int .i64 t) ∧ Nat.gcd a' t = Nat.gcd a b ∧ a' ≤ 9223372036854775807 ∧ t ≤ 9223372036854775807 ∧ σ' = σ) (fun t => t) b rfl ⟨a, rfl, rfl, rfl, ha, hb, rfl⟩ ?_
  rintro t e1 σ1 ⟨a', h0, h1, hg, hl1, hl2, rfl⟩
  by_cases ht : 0 < t
  · have ht' : (0 : Int) < t := by omega
    have hm : (a' : Int).tmod t = ((a' % t : Nat) : Int) := by rw [Int.tmod_eq_emod_of_nonneg (by omega)]; omega
    simp -implicitDefEqProofs (disch := (first | omega | (simp only [go_sem] <;> omega) | fail)) only [go_sem, simprocAttr, h0, h1, ht', hm]
    refine ⟨a' % t, Nat.mod_lt _ ht, t, rfl, rfl, ?_, hl2, by have := Nat.mod_lt a' ht; omega⟩
    rw [← hg, Nat.gcd_comm a' t, Nat.gcd_rec t a', Nat.gcd_comm]
  · have ht0 : t = 0 := by omega
    subst ht0
    have ht' : ¬ (0 : Int) < ((0 : Nat) : Int) := by omega
    simp -implicitDefEqProofs (disch := (first | omega | (simp only [go_sem] <;> omega) | fail)) only [go_sem, simprocAttr, h0, h1]
    rw [Nat.gcd_zero_right] at hg
    refine callF.plain (snatOf_ok a' hl1 _ _ _ ?_)
    rw [← hg] at h
    simp -implicitDefEqProofs (disch := (first | omega | (simp only [go_sem] <;> omega) | fail)) only [go_sem, simprocAttr]
    exact h

theorem limbs_max : limbs 9223372036854775807 = [854775807, 223372036, 9] := by
  rw [limbs_pos (by omega), limbs_pos (by omega), limbs_one (by omega) (by omega)]
  rfl

set_option maxRecDepth 100000 in
set_option maxHeartbeats 1000000 in
theorem snatToInt_ok (n : Nat) (hn : n ≤ 9223372036854775807) (e : Env) (σ : St) (K : KT) (h : K (.tup [.lit (.int .i64 n), .lit (.bool true)]) e σ) : ACall Tryz.prog 135 [ints (limbs n)] e σ K := by
  have hl3 := limbs_len_u64 (n := n) (by omega)
  have hok : natOkB (limbs n) = true := (natOkB_iff _).2 ⟨by omega, Canon_limbs n⟩
  refine ACall.pureW Tryz.func135 rfl Tryz.ntmps135 Tryz.results135 rfl rfl rfl ?_
  simp -implicitDefEqProofs (disch := (first | omega | (simp only [go_sem] <;> omega) | fail)) only [go_sem, simprocAttr]
  refine callF.plain (snatOk_ok _ (by omega) _ _ _ ?_)
  simp -implicitDefEqProofs (disch := (first | omega | (simp only [go_sem] <;> omega) | fail)) only [go_sem, simprocAttr, hok]
  refine callF.fz [σ.n] ?_
  refine ACall.eq_args (l' := [ints (limbs n), ints (limbs 9223372036854775807)]) (by rw [limbs_max]; simp -implicitDefEqProofs (disch := (first | omega | (simp only [go_sem] <;> omega) | fail)) only [go_sem, simprocAttr]; rfl) ?_
  refine scmp_nat n _ (by omega) (by rw [limbs_max]; simp) _ _ _ ?_
  have hc : ¬ 0 < cmpZ (n : Int) 9223372036854775807 := by
    unfold cmpZ; split
    · omega
    · rw [if_neg (by omega)]; omega
  have hdl : ∀ t, valL ((limbs n).drop t) ≤ n := by
    intro t
    have := valL_append ((limbs n).take t) ((limbs n).drop t)
    rw [List.take_append_drop, valL_limbs] at this
    have h1 := valL_nonneg ((Dig_limbs n).take t)
    have h2 := valL_nonneg ((Dig_limbs n).drop t)
    have hp : (0 : Int) < 1000000000 ^ ((limbs n).take t).length := Int.pow_pos (by omega)
    have h3 : (1 : Int) * valL ((limbs n).drop t) ≤ 1000000000 ^ ((limbs n).take t).length * valL ((limbs n).drop t) := Int.mul_le_mul_of_nonneg_right (by omega) h2
    omega
  simp -implicitDefEqProofs (disch := (first | omega | (simp only [go_sem] <;> omega) | fail)) only [go_sem, simprocAttr, hc, wrap_i64]
  refine Sat.loopW (fun (t : Nat) e' σ' => e' 0 = sl intRow (limbs n) ∧ e' 4 = .lit (.int .i64 (valL ((limbs n).drop t))) ∧ e' 5 = .lit (.int .i64 ((t : Int) - 1)) ∧ t ≤ (limbs n).length ∧ Old σ σ') (fun t => t) (limbs n).length rfl ?_ ?_
  · simp -implicitDefEqProofs (disch := (first | omega | (simp only [go_sem] <;> omega) | fail)) only [go_sem, simprocAttr]
    rw [List.drop_of_length_le (Nat.le_refl _)]; exact ⟨rfl, Nat.le_refl _⟩
  · rintro t e1 σ1 ⟨h0, h4, h5, ht, hO⟩
    by_cases hpos : 0 < t
    · obtain ⟨t, rfl⟩ : ∃ t', t = t' + 1 := ⟨t - 1, by omega⟩
      have hpos' : (0 : Int) ≤ ((t + 1 : Nat) : Int) - 1 := by omega
      have hn := toNat_pred hpos
      have hd := valL_drop (l := limbs n) (t := t) (by omega)
      have h1 := hdl t
      have h2 := hdl (t + 1)
      have h3 := valL_nonneg ((Dig_limbs n).drop (t + 1))
      have h4' := (Dig_limbs n).getD t
      simp -implicitDefEqProofs (disch := (first | omega | (simp only [go_sem] <;> omega) | fail)) only [go_sem, simprocAttr, h0, h4, h5, hpos', hn, Nat.add_sub_cancel, getD_int, wrap_i64]
      refine ⟨t, by omega, ?_, ?_, by omega, hO⟩
      · rw [hd]; congr 2; omega
      · congr 2; omega
    · have : t = 0 := by omega
      subst this
      have hneg : ¬ (0 : Int) ≤ ((0 : Nat) : Int) - 1 := by omega
      rw [List.drop_zero, valL_limbs] at h4
      simp -implicitDefEqProofs (disch := (first | omega | (simp only [go_sem] <;> omega) | fail)) only [go_sem, simprocAttr, h0, h4, h5, hO]
      exact h

set_option maxRecDepth 100000 in
set_option maxHeartbeats 1000000 in
theorem sone_ok (l : List Int) (e : Env) (σ : St) (K : KT) (h : K (.lit (.bool (decide (l = [1])))) e σ) : ACall Tryz.prog 100 [ints l] e σ K := by
  refine ACall.pureW Tryz.func100 rfl Tryz.ntmps100 Tryz.results100 rfl rfl rfl ?_
  by_cases hl : l.length = 1
  · obtain ⟨d, rfl⟩ := List.length_eq_one_iff.1 hl
    by_cases hd : d = 1
    · simp -implicitDefEqProofs (disch := (first | omega | (simp only [go_sem] <;> omega) | fail)) only [go_sem, simprocAttr, hd, getD_int]
      simp [hd] at h
      exact h
    · simp -implicitDefEqProofs (disch := (first | omega | (simp only [go_sem] <;> omega) | fail)) only [go_sem, simprocAttr, hd, getD_int]
      simp [hd] at h
      exact h
  · have hl' : ¬ (l.length : Int) = 1 := by omega
    have hn : ¬ l = [1] := fun h => hl (by rw [h]; rfl)
    simp -implicitDefEqProofs (disch := (first | omega | (simp only [go_sem] <;> omega) | fail)) only [go_sem, simprocAttr, hl']
    simp [hn] at h
    exact h

/-- Bounds on a digit of the quotient, from the leading limbs. -/
theorem digit_bounds {bt bl P x rl b r : Int} (hb : b = bt * P + bl) (hr : r = x * P + rl) (hP : 0 < P) (hbl0 : 0 ≤ bl) (hbl1 : bl < P) (hrl0 : 0 ≤ rl) (hrl1 : rl < P) (hbt : 0 < bt) (hx : 0 ≤ x) :
    x / (bt + 1) ≤ r / b ∧ r / b ≤ x / bt := by
  have hb0 : 0 < b := by
    have := Int.mul_pos hbt hP
    omega
  constructor
  · apply Int.le_ediv_of_mul_le hb0
    have h1 : x / (bt + 1) * (bt + 1) ≤ x := Int.ediv_mul_le _ (by omega)
    have h2 : 0 ≤ x / (bt + 1) := Int.ediv_nonneg hx (by omega)
    generalize x / (bt + 1) = k at *
    have h3 : k * b ≤ k * ((bt + 1) * P) := Int.mul_le_mul_of_nonneg_left (by rw [hb, Int.add_mul]; omega) h2
    have h4 : k * (bt + 1) * P ≤ x * P := Int.mul_le_mul_of_nonneg_right h1 (by omega)
    rw [Int.mul_assoc] at h4
    omega
  · apply Int.le_ediv_of_mul_le hbt
    have h1 : r / b * b ≤ r := Int.ediv_mul_le _ (by omega)
    have hr0 : 0 ≤ r := by have := Int.mul_nonneg hx (Int.le_of_lt hP); omega
    have h2 : 0 ≤ r / b := Int.ediv_nonneg hr0 (by omega)
    generalize r / b = k at *
    apply Int.le_of_not_gt
    intro hgt
    have h3 : (x + 1) * P ≤ k * bt * P := Int.mul_le_mul_of_nonneg_right (by omega) (by omega)
    have h4 : k * b = k * bt * P + k * bl := by rw [hb]; grind
    have h5 := Int.mul_nonneg h2 hbl0
    have h6 : (x + 1) * P = x * P + P := by grind
    omega

set_option maxRecDepth 100000 in
set_option maxHeartbeats 1000000 in
theorem sdigit_ok (R b : Nat) (hb : 0 < b) (hge : b ≤ R) (hlt : R < 1000000000 * b) (hlb : (limbs b).length ≤ 10000) (e : Env) (σ : St) (K : KT) (h : K (.lit (.int .i64 ((R / b : Nat) : Int))) e σ) : ACall Tryz.prog 163 [ints (limbs R), ints (limbs b)] e σ K := by
  have hbn : (limbs b).length ≠ 0 := by have := limbs_len_pos hb; omega
  have hRl : (limbs b).length ≤ (limbs R).length := limbs_len_mono hge
  have hRu : (limbs R).length ≤ (limbs b).length + 1 := by
    have h1 : R < 1000000000 * 1000000000 ^ (limbs b).length := by
      have := (limbs_len_iff b _).1 (Nat.le_refl _)
      have : 1000000000 * b ≤ 1000000000 * 1000000000 ^ (limbs b).length := Nat.mul_le_mul_left _ (by omega)
      omega
    refine limbs_length_le _ _ ?_
    rw [Nat.pow_succ, Nat.mul_comm]; exact h1
  have hd := Dig_limbs R
  have hdb := Dig_limbs b
  have hq0 : 0 < R / b := Nat.div_pos hge hb
  have hqB : R / b < 1000000000 := Nat.div_lt_of_lt_mul (by rw [Nat.mul_comm]; exact hlt)
  generalize hn : (limbs b).length = n at *
  -- the leading limbs
  have sb := valL_split (x := limbs b) (t := n - 1) (by omega)
  have sR := valL_split (x := limbs R) (t := n - 1) (by omega)
  rw [List.drop_of_length_le (by omega), valL_limbs] at sb
  rw [valL_limbs] at sR
  have hRd : valL ((limbs R).drop (n - 1 + 1)) = (limbs R).getD n 0 := by
    have e1 : n - 1 + 1 = n := by omega
    rw [e1]
    by_cases hcase : n < (limbs R).length
    · rw [valL_drop hcase, List.drop_of_length_le (by omega)]; simp [valL]
    · rw [List.drop_of_length_le (by omega)]; simp [valL, List.getD, List.getElem?_eq_none (Nat.le_of_not_lt hcase)]
  rw [hRd] at sR
  have hP : (0 : Int) < 1000000000 ^ (n - 1) := Int.pow_pos (by omega)
  have tb0 := valL_nonneg (hdb.take (n - 1))
  have tb1 := valL_lt (hdb.take (n - 1))
  have tR0 := valL_nonneg (hd.take (n - 1))
  have tR1 := valL_lt (hd.take (n - 1))
  rw [List.length_take, Nat.min_eq_left (by omega)] at tb1 tR1
  have hbtop : 0 < (limbs b).getD (n - 1) 0 := by
    have h1 := getLast_getD (m := limbs b) (by omega)
    have h2 := (Canon_limbs b).2
    rw [h1, hn] at h2
    have := hdb.getD (n - 1)
    have : (limbs b).getD (n - 1) 0 ≠ 0 := fun h => h2 (by rw [h])
    omega
  have r1 := hd.getD (n - 1)
  have r2 := hd.getD n
  have b1 := hdb.getD (n - 1)
  generalize hbt : (limbs b).getD (n - 1) 0 = bt at *
  generalize hr1 : (limbs R).getD (n - 1) 0 = u at *
  generalize hr2 : (limbs R).getD n 0 = w at *
  obtain ⟨q1, q2⟩ := digit_bounds (b := (b : Int)) (r := (R : Int)) (x := u + w * 1000000000) (bt := bt) (P := 1000000000 ^ (n - 1)) (bl := valL ((limbs b).take (n - 1))) (rl := valL ((limbs R).take (n - 1))) (by rw [sb]; simp [valL]; grind) (by rw [sR]; grind) hP tb0 tb1 tR0 tR1 hbtop (by omega)
  rw [← Int.natCast_ediv] at q1 q2
  have i1 : ((n : Int) - 1).toNat = n - 1 := by omega
  have x0 : 0 ≤ u + w * 1000000000 := by omega
  have lo0 : 0 ≤ (u + w * 1000000000) / (bt + 1) := Int.ediv_nonneg x0 (by omega)
  have hi1 : (u + w * 1000000000) / bt ≤ u + w * 1000000000 := by
    apply Int.ediv_le_of_le_mul hbtop
    have := Int.mul_le_mul_of_nonneg_left (show (1 : Int) ≤ bt by omega) x0
    omega
  have key : ∀ m : Nat, 0 < cmpZ ((b * m : Nat) : Int) R ↔ R / b < m := by
    intro m
    rw [Nat.div_lt_iff_lt_mul hb]
    have e1 : m * b = b * m := Nat.mul_comm _ _
    rw [e1]
    unfold cmpZ
    constructor
    · intro h; split at h
      · omega
      · split at h <;> omega
    · intro h; rw [if_neg (by omega), if_pos (by omega)]; omega
  refine ACall.pureW Tryz.func163 rfl Tryz.ntmps163 Tryz.results163 rfl rfl rfl ?_
  by_cases hcase : n < (limbs R).length
  · have hc : (n : Int) < (limbs R).length := by omega
    simp -implicitDefEqProofs (disch := (first | omega | (simp only [go_sem] <;> omega) | fail)) only [go_sem, simprocAttr, hn, i1, hr1, hr2, hbt, hc, wrap_i64, getD_int, tdiv_pos']
    refine Sat.loopW (fun (t : Nat) e' σ' => ∃ lo hi : Int, t = (hi - lo).toNat ∧ e' 0 = sl intRow (limbs R) ∧ e' 1 = sl intRow (limbs b) ∧ e' 7 = .lit (.int .i64 lo) ∧ e' 8 = .lit (.int .i64 hi) ∧ 0 ≤ lo ∧ lo ≤ ((R / b : Nat) : Int) ∧ ((R / b : Nat) : Int) ≤ hi ∧ hi ≤ 999999999 ∧ σ' = σ) (fun t => t) _ rfl ⟨(u + w * 1000000000) / (bt + 1), if (u + w * 1000000000) / bt < 999999999 then (u + w * 1000000000) / bt else 999999999, rfl, ?_⟩ ?_
    · simp -implicitDefEqProofs (disch := (first | omega | (simp only [go_sem] <;> omega) | fail)) only [go_sem, simprocAttr, hn]
      refine ⟨lo0, q1, ?_, ?_⟩
      · split <;> omega
      · split <;> omega
    · rintro t e1 σ1 ⟨lo, hi, rfl, h0, h1, h7, h8, g0, g1, g2, g3, rfl⟩
      by_cases hc : lo < hi
      · have hm2 : (lo + hi + 1).tdiv 2 = (lo + hi + 1) / 2 := Int.tdiv_eq_ediv_of_nonneg (by omega)
        simp -implicitDefEqProofs (disch := (first | omega | (simp only [go_sem] <;> omega) | fail)) only [go_sem, simprocAttr, h0, h1, h7, h8, hc, wrap_i64, hm2]
        obtain ⟨m, hm⟩ : ∃ m : Nat, (lo + hi + 1) / 2 = m := ⟨((lo + hi + 1) / 2).toNat, by omega⟩
        rw [hm]
        have hml := limbs_len_u64 (n := m) (by omega)
        have hbl : (limbs b).length ≤ 10000 := by omega
        have hbm := len_mul hbl hml
        refine callF.plain (snatOf_ok m (by omega) _ _ _ ?_)
        simp -implicitDefEqProofs (disch := (first | omega | (simp only [go_sem] <;> omega) | fail)) only [go_sem, simprocAttr, h0, h1, h7, h8]
        refine callF.plain (smul_nat b m (by omega) (by omega) _ _ _ ?_)
        simp -implicitDefEqProofs (disch := (first | omega | (simp only [go_sem] <;> omega) | fail)) only [go_sem, simprocAttr, h0, h1, h7, h8]
        refine callF.plain (scmp_nat _ R (by omega) (by omega) _ _ _ ?_)
        by_cases hgt : R / b < m
        · have hz := (key m).2 hgt
          have hz' : ¬ cmpZ ((b * m : Nat) : Int) R ≤ 0 := by omega
          simp -implicitDefEqProofs (disch := (first | omega | (simp only [go_sem] <;> omega) | fail)) only [go_sem, simprocAttr, h0, h1, h7, h8, hz', wrap_i64]
          exact ⟨_, by omega, lo, (m : Int) - 1, rfl, rfl, rfl, g0, g1, by omega, by omega⟩
        · have hz := mt (key m).1 hgt
          have hz' : cmpZ ((b * m : Nat) : Int) R ≤ 0 := by omega
          simp -implicitDefEqProofs (disch := (first | omega | (simp only [go_sem] <;> omega) | fail)) only [go_sem, simprocAttr, h0, h1, h7, h8, hz', wrap_i64]
          exact ⟨_, by omega, (m : Int), hi, rfl, rfl, rfl, by omega, by omega, by omega, by omega⟩
      · have hle : lo = ((R / b : Nat) : Int) := by omega
        simp -implicitDefEqProofs (disch := (first | omega | (simp only [go_sem] <;> omega) | fail)) only [go_sem, simprocAttr, h0, h1, h7, h8, hc]
        rw [hle]
        exact h
  · have hc : ¬ (n : Int) < (limbs R).length := by omega
    have hw0 : w = 0 := by rw [← hr2]; simp [List.getD, List.getElem?_eq_none (Nat.le_of_not_lt hcase)]
    have hu : u + w * 1000000000 = u := by rw [hw0]; omega
    rw [hu] at lo0 q1 q2 x0 hi1
    simp -implicitDefEqProofs (disch := (first | omega | (simp only [go_sem] <;> omega) | fail)) only [go_sem, simprocAttr, hn, i1, hr1, hr2, hbt, hc, wrap_i64, getD_int, tdiv_pos']
    refine Sat.loopW (fun (t : Nat) e' σ' => ∃ lo hi : Int, t = (hi - lo).toNat ∧ e' 0 = sl intRow (limbs R) ∧ e' 1 = sl intRow (limbs b) ∧ e' 7 = .lit (.int .i64 lo) ∧ e' 8 = .lit (.int .i64 hi) ∧ 0 ≤ lo ∧ lo ≤ ((R / b : Nat) : Int) ∧ ((R / b : Nat) : Int) ≤ hi ∧ hi ≤ 999999999 ∧ σ' = σ) (fun t => t) _ rfl ⟨u / (bt + 1), if u / bt < 999999999 then u / bt else 999999999, rfl, ?_⟩ ?_
    · simp -implicitDefEqProofs (disch := (first | omega | (simp only [go_sem] <;> omega) | fail)) only [go_sem, simprocAttr, hu]
      refine ⟨lo0, q1, ?_, ?_⟩
      · split <;> omega
      · split <;> omega
    · rintro t e1 σ1 ⟨lo, hi, rfl, h0, h1, h7, h8, g0, g1, g2, g3, rfl⟩
      by_cases hc : lo < hi
      · have hm2 : (lo + hi + 1).tdiv 2 = (lo + hi + 1) / 2 := Int.tdiv_eq_ediv_of_nonneg (by omega)
        simp -implicitDefEqProofs (disch := (first | omega | (simp only [go_sem] <;> omega) | fail)) only [go_sem, simprocAttr, h0, h1, h7, h8, hc, wrap_i64, hm2]
        obtain ⟨m, hm⟩ : ∃ m : Nat, (lo + hi + 1) / 2 = m := ⟨((lo + hi + 1) / 2).toNat, by omega⟩
        rw [hm]
        have hml := limbs_len_u64 (n := m) (by omega)
        have hbl : (limbs b).length ≤ 10000 := by omega
        have hbm := len_mul hbl hml
        refine callF.plain (snatOf_ok m (by omega) _ _ _ ?_)
        simp -implicitDefEqProofs (disch := (first | omega | (simp only [go_sem] <;> omega) | fail)) only [go_sem, simprocAttr, h0, h1, h7, h8]
        refine callF.plain (smul_nat b m (by omega) (by omega) _ _ _ ?_)
        simp -implicitDefEqProofs (disch := (first | omega | (simp only [go_sem] <;> omega) | fail)) only [go_sem, simprocAttr, h0, h1, h7, h8]
        refine callF.plain (scmp_nat _ R (by omega) (by omega) _ _ _ ?_)
        by_cases hgt : R / b < m
        · have hz := (key m).2 hgt
          have hz' : ¬ cmpZ ((b * m : Nat) : Int) R ≤ 0 := by omega
          simp -implicitDefEqProofs (disch := (first | omega | (simp only [go_sem] <;> omega) | fail)) only [go_sem, simprocAttr, h0, h1, h7, h8, hz', wrap_i64]
          exact ⟨_, by omega, lo, (m : Int) - 1, rfl, rfl, rfl, g0, g1, by omega, by omega⟩
        · have hz := mt (key m).1 hgt
          have hz' : cmpZ ((b * m : Nat) : Int) R ≤ 0 := by omega
          simp -implicitDefEqProofs (disch := (first | omega | (simp only [go_sem] <;> omega) | fail)) only [go_sem, simprocAttr, h0, h1, h7, h8, hz', wrap_i64]
          exact ⟨_, by omega, (m : Int), hi, rfl, rfl, rfl, by omega, by omega, by omega, by omega⟩
      · have hle : lo = ((R / b : Nat) : Int) := by omega
        simp -implicitDefEqProofs (disch := (first | omega | (simp only [go_sem] <;> omega) | fail)) only [go_sem, simprocAttr, h0, h1, h7, h8, hc]
        rw [hle]
        exact h
end Go.Proofs.Qqz
