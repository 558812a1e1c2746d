/- Long division: the guess at a digit, and what is left. -/
import Derived.Test.YtanoekhdoelkbaaGreatKe
set_option linter.unusedSimpArgs false
set_option linter.unusedVariables false
namespace Go.Proofs.Qqz

/-- The guess stays at or above the digit. -/
theorem guess_keep {v1 v2 Vl Q V top u2 Ul W g rest : Int} (hV : V = (v1 * 1000000000 + v2) * Q + Vl) (hW : W = (top * 1000000000 + u2) * Q + Ul) (hVl : 0 ≤ Vl) (hUl : Ul < Q) (hQ : 0 < Q) (hpos : 0 < V)
    (hg : g * v1 + rest = top) (hg0 : 0 ≤ g) (hc : rest * 1000000000 + u2 < g * v2) : W / V < g := by
  refine Int.ediv_lt_of_lt_mul hpos ?_
  have h1 : (top * 1000000000 + u2 + 1) ≤ g * (v1 * 1000000000 + v2) := by
    have : g * (v1 * 1000000000 + v2) = (g * v1) * 1000000000 + g * v2 := by grind
    rw [this]; omega
  have h2 := Int.mul_le_mul_of_nonneg_right h1 (Int.le_of_lt hQ)
  have h3 := Int.mul_nonneg hg0 hVl
  have h4 : g * V = g * (v1 * 1000000000 + v2) * Q + g * Vl := by rw [hV]; grind
  have h5 : (top * 1000000000 + u2 + 1) * Q = (top * 1000000000 + u2) * Q + Q := by grind
  omega

theorem guess_big {V W g : Int} (hpos : 0 < V) (hW : W < 1000000000 * V) (hg : 1000000000 ≤ g) : W / V < g := by
  have : W / V < 1000000000 := Int.ediv_lt_of_lt_mul hpos hW
  omega

/-- The guess is at most one too high. -/
theorem guess_end {v1 v2 Vl Q V top u2 Ul W g rest : Int} (hV : V = (v1 * 1000000000 + v2) * Q + Vl) (hW : W = (top * 1000000000 + u2) * Q + Ul) (hVl : 0 ≤ Vl) (hVlQ : Vl < Q) (hUl : 0 ≤ Ul) (hQ : 0 < Q) (hv1 : 1 ≤ v1) (hv2 : 0 ≤ v2)
    (hg : g * v1 + rest = top) (hg0 : 0 ≤ g) (hgB : g ≤ 1000000000) (hc : g * v2 ≤ rest * 1000000000 + u2) : g ≤ W / V + 1 := by
  have hVQ : 1000000000 * Q ≤ V := by
    have h1 : 1000000000 ≤ v1 * 1000000000 + v2 := by omega
    have h2 := Int.mul_le_mul_of_nonneg_right h1 (Int.le_of_lt hQ)
    omega
  have hpos : 0 < V := by omega
  have h1 : g * (v1 * 1000000000 + v2) ≤ top * 1000000000 + u2 := by
    have : g * (v1 * 1000000000 + v2) = (g * v1) * 1000000000 + g * v2 := by grind
    rw [this]; omega
  have h2 := Int.mul_le_mul_of_nonneg_right h1 (Int.le_of_lt hQ)
  have h4 : g * V = g * (v1 * 1000000000 + v2) * Q + g * Vl := by rw [hV]; grind
  have h5 : g * Vl ≤ 1000000000 * Vl := Int.mul_le_mul_of_nonneg_right hgB hVl
  have h6 : (g - 1) * V ≤ W := by
    rw [Int.sub_mul, Int.one_mul]; omega
  have := Int.le_ediv_of_mul_le hpos h6
  omega

theorem guess_lt {v1 top g rest : Int} (hv1 : 1 ≤ v1) (htop : top < 1000000000 * (v1 + 1)) (hg : g * v1 + rest = top) (hr : 1000000000 ≤ rest) : g < 1000000000 := by
  apply Int.lt_of_not_ge
  intro h
  have := Int.mul_le_mul_of_nonneg_right h (show 0 ≤ v1 by omega)
  omega

/-- What is left after the guess, and whether it was too high. -/
theorem window_end {V W g q D P t : Int} (hpos : 0 < V) (hq : q = W / V) (hW : 0 ≤ W) (hg : g = q ∨ g = q + 1) (hD0 : 0 ≤ D) (hDP : D < P) (hVP : V ≤ P) (h : D + P * t = W - g * V) :
    (t < 0 → g = q + 1 ∧ -1 ≤ t) ∧ (¬ t < 0 → g = q ∧ t = 0) := by
  have h1 : W - q * V = W % V := by rw [hq]; have := Int.mul_ediv_add_emod W V; rw [Int.mul_comm] at this; omega
  have h2 := Int.emod_nonneg W (show V ≠ 0 by omega)
  have h3 := Int.emod_lt_of_pos W hpos
  have h4 : (q + 1) * V = q * V + V := by grind
  have hP : 0 < P := by omega
  refine ⟨fun ht => ?_, fun ht => ?_⟩
  · have h5 : P * t ≤ P * (-1) := Int.mul_le_mul_of_nonneg_left (by omega) (by omega)
    have hgq : g = q + 1 := by
      rcases hg with rfl | rfl
      · omega
      · rfl
    refine ⟨hgq, ?_⟩
    apply Int.le_of_not_gt
    intro h6
    have h7 : P * t ≤ P * (-2) := Int.mul_le_mul_of_nonneg_left (by omega) (by omega)
    rw [hgq, h4] at h
    omega
  · have h5 := Int.mul_nonneg (Int.le_of_lt hP) (show 0 ≤ t by omega)
    have hgq : g = q := by
      rcases hg with rfl | rfl
      · rfl
      · rw [h4] at h; omega
    refine ⟨hgq, ?_⟩
    apply Int.le_antisymm ?_ (by omega)
    apply Int.le_of_not_gt
    intro h6
    have h7 : P * 1 ≤ P * t := Int.mul_le_mul_of_nonneg_left (by omega) (by omega)
    rw [hgq] at h
    omega

theorem window_back {V R D P t : Int} (hV : V ≤ P) (hR0 : 0 ≤ R) (hR : R < V) (hD0 : 0 ≤ D) (hDP : D < P) (h : D + P * t = R) : t = 0 := by
  have hP : 0 < P := by omega
  apply Int.le_antisymm
  · apply Int.le_of_not_gt
    intro h6
    have h7 : P * 1 ≤ P * t := Int.mul_le_mul_of_nonneg_left (by omega) (by omega)
    omega
  · apply Int.le_of_not_gt
    intro h6
    have h7 : P * t ≤ P * (-1) := Int.mul_le_mul_of_nonneg_left (by omega) (by omega)
    omega

/-- The top two limbs of a number, split off. -/
theorem top_two {l : List Int} {n : Nat} (hl : l.length = n + 2) : valL l = (l.getD (n + 1) 0 * 1000000000 + l.getD n 0) * 1000000000 ^ n + valL (l.take n) := by
  have h1 := valL_take_succ l (n + 1)
  have h2 := valL_take_succ l n
  rw [List.take_of_length_le (by omega)] at h1
  rw [h1, h2, Int.pow_succ]
  grind

theorem top_three {l : List Int} {n : Nat} (hl : n + 2 < l.length) (hz : valL (l.drop (n + 3)) = 0) : valL l = ((l.getD (n + 2) 0 * 1000000000 + l.getD (n + 1) 0) * 1000000000 + l.getD n 0) * 1000000000 ^ n + valL (l.take n) := by
  have h0 := valL_append (l.take (n + 3)) (l.drop (n + 3))
  rw [List.take_append_drop, hz, Int.mul_zero, Int.add_zero] at h0
  have h1 := valL_take_succ l (n + 1 + 1)
  have h2 := valL_take_succ l (n + 1)
  have h3 := valL_take_succ l n
  rw [h0, h1, h2, h3, Int.pow_succ, Int.pow_succ]
  grind

/-- Above a bound there are only noughts. -/
theorem high_zero {l : List Int} (hd : Dig l) {n : Nat} (h : valL l < 1000000000 ^ n) : valL (l.drop n) = 0 := by
  have h0 := valL_append (l.take n) (l.drop n)
  rw [List.take_append_drop, List.length_take] at h0
  by_cases hn : n ≤ l.length
  · rw [Nat.min_eq_left hn] at h0
    have h1 := valL_nonneg (hd.take n)
    have h2 := valL_nonneg (hd.drop n)
    apply Int.le_antisymm ?_ h2
    apply Int.le_of_not_gt
    intro h3
    have hp : (0 : Int) < 1000000000 ^ n := Int.pow_pos (by omega)
    have h4 : (1000000000 : Int) ^ n * 1 ≤ 1000000000 ^ n * valL (l.drop n) := Int.mul_le_mul_of_nonneg_left (by omega) (by omega)
    omega
  · rw [List.drop_of_length_le (by omega)]; rfl

theorem valL_bound {V : List Int} (hd : Dig V) : valL V ≤ 1000000000 ^ V.length := by have := valL_lt hd; omega

theorem getD_drop (l : List Int) (j i : Nat) : (l.drop j).getD i 0 = l.getD (j + i) 0 := by
  simp [List.getD, List.getElem?_drop]

theorem window_facts {V U : List Int} {j : Nat} (hV : Dig V) (hU : Dig U) (hV2 : 2 ≤ V.length) (hj : j + V.length < U.length) (hwin : valL (U.drop (j + 1)) < valL V) :
    ∃ P Vl Ul : Int, 0 < P ∧ 0 ≤ Vl ∧ Vl < P ∧ 0 ≤ Ul ∧ Ul < P ∧ valL V = (V.getD (V.length - 1) 0 * 1000000000 + V.getD (V.length - 2) 0) * P + Vl ∧
      valL (U.drop j) = ((U.getD (j + V.length) 0 * 1000000000 + U.getD (j + V.length - 1) 0) * 1000000000 + U.getD (j + V.length - 2) 0) * P + Ul ∧
      valL (U.drop j) < 1000000000 * valL V ∧ 0 ≤ valL (U.drop j) ∧ (U.getD (j + V.length) 0 * 1000000000 + U.getD (j + V.length - 1) 0) < 1000000000 * (V.getD (V.length - 1) 0 + 1) ∧ valL (U.drop (j + V.length + 1)) = 0 := by
  obtain ⟨n, hn⟩ : ∃ n, V.length = n + 2 := ⟨V.length - 2, by omega⟩
  have hWd := hU.drop j
  have hW0 := valL_nonneg hWd
  have hWB : valL (U.drop j) < 1000000000 * valL V := by
    have h1 := valL_drop (l := U) (t := j) (by omega)
    have h2 := hU.getD j
    rw [h1]; omega
  have hVlt := valL_lt hV
  have hz : valL ((U.drop j).drop (n + 3)) = 0 := by
    apply high_zero hWd
    rw [hn] at hVlt
    rw [Int.pow_succ]
    have : (1000000000 : Int) ^ (n + 2) * 1000000000 = 1000000000 * 1000000000 ^ (n + 2) := Int.mul_comm _ _
    omega
  have hP : (0 : Int) < 1000000000 ^ n := Int.pow_pos (by omega)
  have hV0 := valL_nonneg (hV.take n)
  have hV1 := valL_lt (hV.take n)
  have hU0 := valL_nonneg (hWd.take n)
  have hU1 := valL_lt (hWd.take n)
  rw [List.length_take, Nat.min_eq_left (by omega)] at hV1
  rw [List.length_take, Nat.min_eq_left (by simp; omega)] at hU1
  have fV := top_two hn
  have fW := top_three (l := U.drop j) (n := n) (by simp; omega) hz
  rw [getD_drop, getD_drop, getD_drop] at fW
  have e1 : V.length - 1 = n + 1 := by omega
  have e2 : V.length - 2 = n := by omega
  have e3 : j + V.length = j + (n + 2) := by omega
  have e4 : j + V.length - 1 = j + (n + 1) := by omega
  have e5 : j + V.length - 2 = j + n := by omega
  have e6 : j + V.length + 1 = j + (n + 3) := by omega
  rw [List.drop_drop] at hz
  rw [e1, e2, e6, e4, e5, e3]
  refine ⟨1000000000 ^ n, valL (V.take n), valL ((U.drop j).take n), hP, hV0, hV1, hU0, hU1, fV, fW, hWB, hW0, ?_, hz⟩
  generalize (1000000000 : Int) ^ n = P at *
  have v2 := hV.getD n
  have u3 := hU.getD (j + n)
  generalize U.getD (j + (n + 2)) 0 * 1000000000 + U.getD (j + (n + 1)) 0 = top at *
  apply Int.lt_of_not_ge
  intro h
  rw [fW, fV] at hWB
  have h1 : (1000000000 * (V.getD (n + 1) 0 + 1) * 1000000000) ≤ (top * 1000000000 + U.getD (j + n) 0) := by omega
  have h2 := Int.mul_le_mul_of_nonneg_right h1 (Int.le_of_lt hP)
  have h3 : 1000000000 * (V.getD (n + 1) 0 * 1000000000 + V.getD n 0) + 1000000000 ≤ 1000000000 * (V.getD (n + 1) 0 + 1) * 1000000000 := by omega
  have h4 := Int.mul_le_mul_of_nonneg_right h3 (Int.le_of_lt hP)
  have h5 : (1000000000 * (V.getD (n + 1) 0 * 1000000000 + V.getD n 0) + 1000000000) * P = 1000000000 * ((V.getD (n + 1) 0 * 1000000000 + V.getD n 0) * P) + 1000000000 * P := by grind
  omega

/-- A window whose limbs above the top one are noughts. -/
theorem window_val {W : List Int} {n : Nat} (hz : valL (W.drop (n + 1)) = 0) : valL (W.take n) + 1000000000 ^ n * W.getD n 0 = valL W := by
  have h1 := valL_take_succ W n
  have h2 := valL_append (W.take (n + 1)) (W.drop (n + 1))
  rw [List.take_append_drop, hz, Int.mul_zero, Int.add_zero] at h2
  omega

/-- The whole, when a window of it has been rewritten. -/
theorem window_whole {U A D R : List Int} {j n : Nat} {t : Int} (hA : A = U.take j) (hAl : A.length = j) (hD : D.length = n) (hR : R = (U.drop j).drop (n + 1)) (hz : valL R = 0) (ht : t = 0) :
    valL (A ++ (D ++ t :: R)) = valL U - 1000000000 ^ j * (valL (U.drop j) - valL D) := by
  subst ht
  have h1 := valL_append (U.take j) (U.drop j)
  rw [List.take_append_drop, ← hA, hAl] at h1
  rw [valL_append, valL_append, valL, hz, hAl, h1]
  grind

/-- What a round of the division leaves. -/
theorem round_end {U Q D R A : List Int} {j n m : Nat} {V q N : Int} (hA : A = U.take j) (hAl : A.length = j) (hUd : Dig U) (hR : R = (U.drop j).drop (n + 1)) (hz : valL R = 0) (hU : U.length = m) (hjm : j + n + 1 ≤ m) (hVp : 0 < V) (hq : q = valL (U.drop j) / V)
    (hq0 : 0 ≤ q) (hq1 : q < 1000000000) (hjQ : j < Q.length) (hQd : Dig (Q.drop (j + 1))) (hval : valL U + V * (1000000000 ^ (j + 1) * valL (Q.drop (j + 1))) = N) (hDl : D.length = n) (hD : Dig D) (hDv : valL D = valL (U.drop j) - q * V) :
    (A ++ (D ++ 0 :: R)).length = m ∧ Dig (A ++ (D ++ 0 :: R)) ∧ Dig ((Q.set j q).drop j) ∧ valL (A ++ (D ++ 0 :: R)) + V * (1000000000 ^ j * valL ((Q.set j q).drop j)) = N ∧ valL ((A ++ (D ++ 0 :: R)).drop j) < V := by
  have hRd : Dig R := by rw [hR]; exact (hUd.drop _).drop _
  have hRl : R.length = m - j - (n + 1) := by rw [hR]; simp; omega
  have hAd : Dig A := by rw [hA]; exact hUd.take _
  refine ⟨by simp; omega, ?_, ?_, ?_, ?_⟩
  · rw [Dig.append, Dig.append, Dig.cons]; exact ⟨hAd, hD, ⟨by omega, by omega⟩, hRd⟩
  · rw [drop_set hjQ, Dig.cons]; exact ⟨⟨hq0, hq1⟩, hQd⟩
  · rw [window_whole hA hAl hDl hR hz rfl, hDv, drop_set hjQ, valL, ← hval, Int.pow_succ]
    generalize valL (Q.drop (j + 1)) = s
    generalize (1000000000 : Int) ^ j = p
    generalize valL (U.drop j) = w
    grind
  · have h1 : (A ++ (D ++ 0 :: R)).drop j = D ++ 0 :: R := by rw [← hAl]; simp
    rw [h1, valL_append, valL, hz, hDv, hq]
    have h2 := Int.emod_lt_of_pos (valL (U.drop j)) hVp
    have h3 := Int.mul_ediv_add_emod (valL (U.drop j)) V
    rw [Int.mul_comm] at h3
    simp only [Int.mul_zero, Int.add_zero]
    omega

theorem getD_left {D R : List Int} {i : Nat} (h : i < D.length) : (D ++ R).getD i 0 = D.getD i 0 := by
  simp [List.getD, List.getElem?_append_left h]
theorem getD_at {D R : List Int} {n : Nat} (h : D.length = n) (t : Int) : (D ++ t :: R).getD n 0 = t := by
  subst h; simp [List.getD]
theorem take_at {D R : List Int} {n : Nat} (h : D.length = n) : (D ++ R).take n = D := by
  subst h; simp
theorem drop_at {D R : List Int} {n : Nat} (h : D.length = n) (t : Int) : (D ++ t :: R).drop (n + 1) = R := by
  subst h; simp [List.drop_append]

theorem final_div {A b d Q R : Int} (hb : 0 < b) (hd : 0 < d) (h : R + b * d * Q = A * d) (h0 : 0 ≤ R) (h1 : R < b * d) : Q = A / b ∧ R / d = A % b := by
  have hR : R = d * (A - b * Q) := by grind
  have hr0 : 0 ≤ A - b * Q := by
    apply Int.le_of_not_gt; intro hneg
    have : d * (A - b * Q) ≤ d * (-1) := Int.mul_le_mul_of_nonneg_left (by omega) (by omega)
    omega
  have hr1 : A - b * Q < b := by
    apply Int.lt_of_not_ge; intro hge
    have : d * b ≤ d * (A - b * Q) := Int.mul_le_mul_of_nonneg_left hge (by omega)
    rw [Int.mul_comm b d] at h1
    omega
  have hu := (Int.ediv_emod_unique hb (a := A) (q := Q) (r := A - b * Q)).2 ⟨by omega, hr0, hr1⟩
  refine ⟨hu.1.symm, ?_⟩
  rw [hR, Int.mul_ediv_cancel_left _ (by omega)]
  exact hu.2.symm
end Go.Proofs.Qqz
