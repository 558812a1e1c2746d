/- Contracts: quotients, the greatest common divisor, numbers with a sign. -/
import Derived.Test.YtanoekhdoelkbaaGreatIme
import Derived.Test.YtanoekhdoelkbaaGreatKe
set_option linter.unusedSimpArgs false
set_option linter.unusedVariables false
namespace Go.Proofs.Qqz
open Go

theorem over_ok (x y : List Int) (hx : Canon x) (hy : Canon y) (hlx : x.length ≤ 100000) (hly : y.length ≤ 100000) (hy0 : 0 < valL y) (e : Env) (σ : St) (K : KT)
    (h : K (.tup [ints (limbs (valL x / valL y).toNat), ints (limbs (valL x % valL y).toNat)]) e σ) : ACall Tryz.prog 167 [ints x, ints y] e σ K := by
  by_cases hlt : valL x < valL y
  · exact over_small x y hx hy hlx hly hlt e σ K h
  by_cases h1 : y.length = 1
  · obtain ⟨d, rfl⟩ := List.length_eq_one_iff.1 h1
    have hd := Dig.cons.1 hy.1
    have hv : valL [d] = d := by simp [valL]
    rw [hv] at h hy0 hlt
    exact over_one x d hx ⟨hy0, hd.1.2⟩ hlx (by omega) e σ K h
  · have h0 : y.length ≠ 0 := by
      intro h0; have := List.eq_nil_of_length_eq_zero h0; subst this; simp [valL] at hy0
    exact over_long x y hx hy hlx hly (by omega) (by omega) e σ K h

theorem over_nat (a b : Nat) (hb : 0 < b) (hla : (limbs a).length ≤ 100000) (hlb : (limbs b).length ≤ 100000) (e : Env) (σ : St) (K : KT)
    (h : K (.tup [ints (limbs (a / b)), ints (limbs (a % b))]) e σ) : ACall Tryz.prog 167 [ints (limbs a), ints (limbs b)] e σ K := by
  refine over_ok _ _ (Canon_limbs a) (Canon_limbs b) hla hlb (by rw [valL_limbs]; omega) e σ K ?_
  rw [valL_limbs, valL_limbs, ← Int.natCast_ediv, ← Int.natCast_emod, Int.toNat_natCast, Int.toNat_natCast]
  exact h

set_option maxRecDepth 100000 in
set_option maxHeartbeats 1000000 in
theorem divisor_ok (a b : Nat) (hla : (limbs a).length ≤ 100000) (hlb : (limbs b).length ≤ 100000) (e : Env) (σ : St) (K : KT) (h : K (ints (limbs (Nat.gcd a b))) e σ) : ACall Tryz.prog 165 [ints (limbs a), ints (limbs b)] e σ K := by
  refine ACall.pureW Tryz.func165 rfl Tryz.ntmps165 Tryz.results165 rfl rfl rfl ?_
  simp -implicitDefEqProofs (disch := (first | omega | (simp only [go_sem] <;> omega) | fail)) only [go_sem, simprocAttr]
  refine Sat.loopW (fun (t : Nat) e' σ' => ∃ a', e' 0 = ints (limbs a') ∧ e' 1 = ints (limbs t) ∧ Nat.gcd a' t = Nat.gcd a b ∧ (limbs a').length ≤ 100000 ∧ (limbs t).length ≤ 100000 ∧ σ' = σ) (fun t => t) b rfl ⟨a, rfl, rfl, rfl, hla, hlb, rfl⟩ ?_
  rintro t e1 σ1 ⟨a', h0, h1, hg, hl1, hl2, rfl⟩
  by_cases ht : 0 < t
  · have ht' : (0 : Int) < (limbs t).length := by have := limbs_len_pos ht; omega
    simp -implicitDefEqProofs (disch := (first | omega | (simp only [go_sem] <;> omega) | fail)) only [go_sem, simprocAttr, h0, h1, ht']
    refine callF.plain (over_nat a' t ht hl1 hl2 _ _ _ ?_)
    simp -implicitDefEqProofs (disch := (first | omega | (simp only [go_sem] <;> omega) | fail)) only [go_sem, simprocAttr, h0, h1]
    refine ⟨a' % t, Nat.mod_lt _ ht, t, rfl, rfl, ?_, hl2, len_le (Nat.le_of_lt (Nat.mod_lt _ ht)) hl2⟩
    rw [← hg, Nat.gcd_comm a' t, Nat.gcd_rec t a', Nat.gcd_comm]
  · have ht0 : t = 0 := by omega
    subst ht0
    have ht' : ¬ (0 : Int) < (limbs 0).length := by rw [limbs_zero]; simp
    simp -implicitDefEqProofs (disch := (first | omega | (simp only [go_sem] <;> omega) | fail)) only [go_sem, simprocAttr, h0, h1, ht']
    rw [Nat.gcd_zero_right] at hg
    rw [← hg] at h
    exact h

theorem cmp_nat (a b : Nat) (hla : (limbs a).length ≤ 1000000) (hlb : (limbs b).length ≤ 1000000) (e : Env) (σ : St) (K : KT) (h : K (.lit (.int .i64 (cmpZ a b))) e σ) : ACall Tryz.prog 166 [ints (limbs a), ints (limbs b)] e σ K := by
  refine compare_ok _ _ (Canon_limbs a) (Canon_limbs b) hla hlb e σ K ?_
  rw [valL_limbs, valL_limbs]; exact h

theorem times_nat (a b : Nat) (hla : (limbs a).length ≤ 100000) (hlb : (limbs b).length ≤ 100000) (e : Env) (σ : St) (K : KT) (h : K (ints (limbs (a * b))) e σ) : ACall Tryz.prog 145 [ints (limbs a), ints (limbs b)] e σ K := by
  refine times_ok _ _ (Dig_limbs a) (Dig_limbs b) (by omega) (by omega) e σ K ?_
  rw [valL_limbs, valL_limbs, ← Int.natCast_mul, Int.toNat_natCast]; exact h

/-- A number with a sign. -/
def bigA (n : Int) : AV := .agg [.lit (.bool (decide (n < 0))), ints (limbs n.natAbs)]

set_option maxRecDepth 100000 in
set_option maxHeartbeats 1000000 in
theorem signed_ok (neg : Bool) (m : Nat) (e : Env) (σ : St) (K : KT) (h : K (bigA (sgn neg m)) e σ) : ACall Tryz.prog 146 [.lit (.bool neg), ints (limbs m)] e σ K := by
  unfold bigA at h
  rw [sgn_natAbs, sgn_neg] at h
  refine ACall.pureW Tryz.func146 rfl Tryz.ntmps146 Tryz.results146 rfl rfl rfl ?_
  cases neg with
  | false =>
    simp -implicitDefEqProofs (disch := (first | omega | (simp only [go_sem] <;> omega) | fail)) only [go_sem, simprocAttr]
    simp at h
    exact h
  | true =>
    by_cases hm : 0 < m
    · have hm' : (0 : Int) < (limbs m).length := by have := limbs_len_pos hm; omega
      simp -implicitDefEqProofs (disch := (first | omega | (simp only [go_sem] <;> omega) | fail)) only [go_sem, simprocAttr, hm']
      simp [hm] at h
      exact h
    · have hm' : ¬ (0 : Int) < (limbs m).length := by have := (limbs_nil (n := m)).2 (by omega); omega
      simp -implicitDefEqProofs (disch := (first | omega | (simp only [go_sem] <;> omega) | fail)) only [go_sem, simprocAttr, hm']
      simp [hm] at h
      exact h

set_option maxRecDepth 100000 in
set_option maxHeartbeats 1000000 in
theorem opposite_ok (n : Int) (e : Env) (σ : St) (K : KT) (h : K (bigA (-n)) e σ) : ACall Tryz.prog 129 [bigA n] e σ K := by
  unfold bigA
  refine ACall.pureW Tryz.func129 rfl Tryz.ntmps129 Tryz.results129 rfl rfl rfl ?_
  simp -implicitDefEqProofs (disch := (first | omega | (simp only [go_sem] <;> omega) | fail)) only [go_sem, simprocAttr]
  refine callF.plain (signed_ok _ _ _ _ _ ?_)
  have hs : sgn (!decide (n < 0)) n.natAbs = -n := by
    unfold sgn; split <;> rename_i h1 <;> simp at h1 <;> omega
  rw [hs]
  unfold bigA at h ⊢
  simp -implicitDefEqProofs (disch := (first | omega | (simp only [go_sem] <;> omega) | fail)) only [go_sem, simprocAttr]
  exact h

theorem plus_nat (a b : Nat) (hla : (limbs a).length ≤ 100000) (hlb : (limbs b).length ≤ 100000) (e : Env) (σ : St) (K : KT) (h : K (ints (limbs (a + b))) e σ) : ACall Tryz.prog 168 [ints (limbs a), ints (limbs b)] e σ K := by
  refine plus_ok _ _ (Dig_limbs a) (Dig_limbs b) (by omega) (by omega) e σ K ?_
  rw [valL_limbs, valL_limbs, ← Int.natCast_add, Int.toNat_natCast]; exact h

theorem minus_nat (a b : Nat) (hab : b ≤ a) (hla : (limbs a).length ≤ 100000) (e : Env) (σ : St) (K : KT) (h : K (ints (limbs (a - b))) e σ) : ACall Tryz.prog 169 [ints (limbs a), ints (limbs b)] e σ K := by
  refine minus_ok _ _ (Dig_limbs a) (Dig_limbs b) (by omega) (limbs_len_mono hab) (by rw [valL_limbs, valL_limbs]; omega) e σ K ?_
  rw [valL_limbs, valL_limbs, ← Int.natCast_sub hab, Int.toNat_natCast]; exact h

theorem cmpZ_ge {a b : Int} : 0 ≤ cmpZ a b ↔ b ≤ a := by
  unfold cmpZ; split
  · omega
  · split <;> omega

theorem sgn_add_same {a b : Int} (h : decide (a < 0) = decide (b < 0)) : sgn (decide (a < 0)) (a.natAbs + b.natAbs) = a + b := by
  unfold sgn; split <;> rename_i h1
  · have h2 := h1; rw [h] at h2; simp at h1 h2; omega
  · have h2 := h1; rw [h] at h2; simp at h1 h2; omega
theorem sgn_sub_diff {a b : Int} (h : ¬ decide (a < 0) = decide (b < 0)) (hle : b.natAbs ≤ a.natAbs) : sgn (decide (a < 0)) (a.natAbs - b.natAbs) = a + b := by
  unfold sgn; split <;> rename_i h1
  · by_cases h2 : b < 0
    · simp at h1; simp [h1, h2] at h
    · simp at h1; omega
  · by_cases h2 : b < 0
    · simp at h1; omega
    · simp at h1; exact absurd (by simp [h2]; omega) h

set_option maxRecDepth 100000 in
set_option maxHeartbeats 1000000 in
theorem bigPlus_ok (a b : Int) (hla : (limbs a.natAbs).length ≤ 100000) (hlb : (limbs b.natAbs).length ≤ 100000) (e : Env) (σ : St) (K : KT) (h : K (bigA (a + b)) e σ) : ACall Tryz.prog 144 [bigA a, bigA b] e σ K := by
  unfold bigA
  refine ACall.pureW Tryz.func144 rfl Tryz.ntmps144 Tryz.results144 rfl rfl rfl ?_
  simp -implicitDefEqProofs (disch := (first | omega | (simp only [go_sem] <;> omega) | fail)) only [go_sem, simprocAttr]
  refine callF.plain (cmp_nat a.natAbs b.natAbs (by omega) (by omega) _ _ _ ?_)
  by_cases hs : decide (a < 0) = decide (b < 0)
  · have hs' : (decide (a < 0) == decide (b < 0)) = true := by simp [hs]
    simp -implicitDefEqProofs (disch := (first | omega | (simp only [go_sem] <;> omega) | fail)) only [go_sem, simprocAttr, hs']
    refine Sat.drawn0 [8] mixed (by kernel_rfl) ?_
    simp -implicitDefEqProofs (disch := (first | omega | (simp only [go_sem] <;> omega) | fail)) only [go_sem, simprocAttr]
    refine exQ.intro (plus_nat a.natAbs b.natAbs hla hlb _ _ _ ⟨rfl, rfl⟩) ?_
    simp -implicitDefEqProofs (disch := (first | omega | (simp only [go_sem] <;> omega) | fail)) only [go_sem, simprocAttr]
    refine exQ.intro (signed_ok _ _ _ _ _ ⟨rfl, rfl⟩) ?_
    rw [sgn_add_same hs]
    unfold bigA at h ⊢
    simp -implicitDefEqProofs (disch := (first | omega | (simp only [go_sem] <;> omega) | fail)) only [go_sem, simprocAttr]
    exact h
  · have hs' : (decide (a < 0) == decide (b < 0)) = false := by simpa using hs
    by_cases hc : b.natAbs ≤ a.natAbs
    · have hc' : (0 : Int) ≤ cmpZ a.natAbs b.natAbs := cmpZ_ge.2 (by omega)
      simp -implicitDefEqProofs (disch := (first | omega | (simp only [go_sem] <;> omega) | fail)) only [go_sem, simprocAttr, hs', hc']
      refine Sat.drawn0 [8] mixed (by kernel_rfl) ?_
      simp -implicitDefEqProofs (disch := (first | omega | (simp only [go_sem] <;> omega) | fail)) only [go_sem, simprocAttr]
      refine exQ.intro (minus_nat a.natAbs b.natAbs hc hla _ _ _ ⟨rfl, rfl⟩) ?_
      simp -implicitDefEqProofs (disch := (first | omega | (simp only [go_sem] <;> omega) | fail)) only [go_sem, simprocAttr]
      refine exQ.intro (signed_ok _ _ _ _ _ ⟨rfl, rfl⟩) ?_
      rw [sgn_sub_diff hs hc]
      unfold bigA at h ⊢
      simp -implicitDefEqProofs (disch := (first | omega | (simp only [go_sem] <;> omega) | fail)) only [go_sem, simprocAttr]
      exact h
    · have hc' : ¬ (0 : Int) ≤ cmpZ a.natAbs b.natAbs := by rw [cmpZ_ge]; omega
      simp -implicitDefEqProofs (disch := (first | omega | (simp only [go_sem] <;> omega) | fail)) only [go_sem, simprocAttr, hs', hc']
      refine Sat.drawn0 [8] mixed (by kernel_rfl) ?_
      simp -implicitDefEqProofs (disch := (first | omega | (simp only [go_sem] <;> omega) | fail)) only [go_sem, simprocAttr]
      refine exQ.intro (minus_nat b.natAbs a.natAbs (by omega) hlb _ _ _ ⟨rfl, rfl⟩) ?_
      simp -implicitDefEqProofs (disch := (first | omega | (simp only [go_sem] <;> omega) | fail)) only [go_sem, simprocAttr]
      refine exQ.intro (signed_ok _ _ _ _ _ ⟨rfl, rfl⟩) ?_
      rw [sgn_sub_diff (fun h => hs h.symm) (by omega), Int.add_comm]
      unfold bigA at h ⊢
      simp -implicitDefEqProofs (disch := (first | omega | (simp only [go_sem] <;> omega) | fail)) only [go_sem, simprocAttr]
      exact h

set_option maxRecDepth 100000 in
set_option maxHeartbeats 1000000 in
theorem bigTimes_ok (a b : Int) (hla : (limbs a.natAbs).length ≤ 100000) (hlb : (limbs b.natAbs).length ≤ 100000) (e : Env) (σ : St) (K : KT) (h : K (bigA (a * b)) e σ) : ACall Tryz.prog 149 [bigA a, bigA b] e σ K := by
  unfold bigA
  refine ACall.pureW Tryz.func149 rfl Tryz.ntmps149 Tryz.results149 rfl rfl rfl ?_
  simp -implicitDefEqProofs (disch := (first | omega | (simp only [go_sem] <;> omega) | fail)) only [go_sem, simprocAttr]
  refine Sat.drawn0 [11] mixed (by kernel_rfl) ?_
  simp -implicitDefEqProofs (disch := (first | omega | (simp only [go_sem] <;> omega) | fail)) only [go_sem, simprocAttr]
  refine exQ.intro (times_nat a.natAbs b.natAbs hla hlb _ _ _ ⟨rfl, rfl⟩) ?_
  simp -implicitDefEqProofs (disch := (first | omega | (simp only [go_sem] <;> omega) | fail)) only [go_sem, simprocAttr]
  refine exQ.intro (signed_ok (decide (a < 0) != decide (b < 0)) _ _ _ _ ⟨rfl, rfl⟩) ?_
  rw [sgn_mul]
  unfold bigA at h ⊢
  simp -implicitDefEqProofs (disch := (first | omega | (simp only [go_sem] <;> omega) | fail)) only [go_sem, simprocAttr]
  exact h
end Go.Proofs.Qqz
