/- Contracts: sums and differences. -/
import Derived.Test.YtanoekhdoelkbaaGreatIma
set_option linter.unusedSimpArgs false
set_option linter.unusedVariables false
namespace Go.Proofs.Qqz
open Go


set_option maxRecDepth 100000 in
set_option maxHeartbeats 1000000 in
/-- The sum. -/
theorem plus_ok (x y : List Int) (hx : Dig x) (hy : Dig y) (hlx : x.length ≤ 1000000) (hly : y.length ≤ 1000000) (e : Env) (σ : St) (K : KT) (h : K (ints (limbs (valL x + valL y).toNat)) e σ) : ACall Tryz.prog 168 [ints x, ints y] e σ K := by
  refine ACall.pureW Tryz.func168 rfl Tryz.ntmps168 Tryz.results168 rfl rfl rfl ?_
  by_cases hsw : x.length < y.length
  · have hsw' : (x.length : Int) < y.length := by omega
    have hle : x.length ≤ y.length := by omega
    rw [Int.add_comm] at h
    simp -implicitDefEqProofs (disch := (first | omega | (simp only [go_sem] <;> omega) | fail)) only [go_sem, Nat.reduceEqDiff, ↓reduceIte, Nat.reduceAdd, Nat.reduceLT, Nat.reduceLeDiff, Nat.reduceSub, Nat.reduceMul, Int.reduceLT, Int.reduceLE, Int.reduceToNat, Int.reduceNeg, Int.reduceEq, Int.reduceAdd, Int.reduceSub, Int.reduceMul, reduceCtorEq, wrap_i64, hsw']
    refine Sat.loopW (fun (t : Nat) e' σ' => ∃ i L c, t = y.length - i ∧ i ≤ y.length ∧ e' 0 = sl intRow y ∧ e' 1 = sl intRow x ∧ e' 5 = .os σ.n 0 (y.length + 1) ∧ e' 6 = .lit (.int .i64 c) ∧ e' 20 = sl intRow y ∧ e' 21 = .lit (.int .i64 y.length) ∧ e' 22 = .lit (.int .i64 (i : Nat)) ∧
      σ'.n = σ.n + 1 ∧ σ'.h σ.n = bl intRow 1 L ∧ Old σ σ' ∧ L.length = y.length + 1 ∧ Dig (L.take i) ∧ 0 ≤ c ∧ c ≤ 1 ∧ valL (L.take i) + 1000000000 ^ i * c = valL (y.take i) + valL (x.take i)) (fun t => t) y.length rfl ?_ ?_
    · simp -implicitDefEqProofs (disch := (first | omega | (simp only [go_sem] <;> omega) | fail)) only [go_sem, Nat.reduceEqDiff, ↓reduceIte, Nat.reduceAdd, Nat.reduceLT, Nat.reduceLeDiff, Nat.reduceSub, Nat.reduceMul, Int.reduceLT, Int.reduceLE, Int.reduceToNat, Int.reduceNeg, Int.reduceEq, Int.reduceAdd, Int.reduceSub, Int.reduceMul, reduceCtorEq]
      refine ⟨0, List.replicate (y.length + 1) 0, 0, ?_⟩
      have e1 : ((y.length : Int) + 1).toNat = y.length + 1 := by omega
      rw [e1]
      refine ⟨by omega, by omega, rfl, rfl, rfl, rfl, by simp, by simp [Dig], by omega, by omega, by simp [valL]⟩
    · rintro t e1 σ1 ⟨i, L, c, rfl, hi, h0, h1, h5, h6, h20, h21, h22, hn, hB, hO, hL, hd, hc0, hc1, hv⟩
      have hvx := valL_take_succ y i
      have hvy := valL_take_succ x i
      by_cases hlt : i < y.length
      · have hlt' : (i : Int) < y.length := by omega
        have hxi := hy.getD i
        have hyi := hx.getD i
        by_cases hiy : i < x.length
        · have hiy' : (i : Int) < x.length := by omega
          simp -implicitDefEqProofs (disch := (first | omega | (simp only [go_sem] <;> omega) | fail)) only [go_sem, Nat.reduceEqDiff, ↓reduceIte, Nat.reduceAdd, Nat.reduceLT, Nat.reduceLeDiff, Nat.reduceSub, Nat.reduceMul, Int.reduceLT, Int.reduceLE, Int.reduceToNat, Int.reduceNeg, Int.reduceEq, Int.reduceAdd, Int.reduceSub, Int.reduceMul, reduceCtorEq, h0, h1, h5, h6, h20, h21, h22, hlt', hiy', hn, hB, hO, wrap_i64, getD_int, tmod_pos, tdiv_pos]
          have hs := valL_set (l := L) (i := i) (by omega) ((y.getD i 0 + c + x.getD i 0) % 1000000000)
          refine ⟨y.length - (i + 1), by omega, i + 1, L.set i ((y.getD i 0 + c + x.getD i 0) % 1000000000), (y.getD i 0 + c + x.getD i 0) / 1000000000, rfl, by omega, rfl, rfl, rfl, by simpa using hL, Dig_set (by omega) hd (by omega) (by omega), by omega, by omega, ?_⟩
          rw [hs, hvx, hvy, Int.pow_succ]
          exact carry_step hv (by omega)
        · have hiy' : ¬ (i : Int) < x.length := by omega
          have hy0 : x.getD i 0 = 0 := by simp [List.getD, List.getElem?_eq_none (Nat.le_of_not_lt hiy)]
          simp -implicitDefEqProofs (disch := (first | omega | (simp only [go_sem] <;> omega) | fail)) only [go_sem, Nat.reduceEqDiff, ↓reduceIte, Nat.reduceAdd, Nat.reduceLT, Nat.reduceLeDiff, Nat.reduceSub, Nat.reduceMul, Int.reduceLT, Int.reduceLE, Int.reduceToNat, Int.reduceNeg, Int.reduceEq, Int.reduceAdd, Int.reduceSub, Int.reduceMul, reduceCtorEq, h0, h1, h5, h6, h20, h21, h22, hlt', hiy', hn, hB, hO, wrap_i64, getD_int, tmod_pos, tdiv_pos]
          have hs := valL_set (l := L) (i := i) (by omega) ((y.getD i 0 + c) % 1000000000)
          refine ⟨y.length - (i + 1), by omega, i + 1, L.set i ((y.getD i 0 + c) % 1000000000), (y.getD i 0 + c) / 1000000000, rfl, by omega, rfl, rfl, rfl, by simpa using hL, Dig_set (by omega) hd (by omega) (by omega), by omega, by omega, ?_⟩
          rw [hs, hvx, hvy, Int.pow_succ]
          exact carry_step hv (by omega)
      · have hlt' : ¬ (i : Int) < y.length := by omega
        have hie : i = y.length := by omega
        subst hie
        simp -implicitDefEqProofs (disch := (first | omega | (simp only [go_sem] <;> omega) | fail)) only [go_sem, Nat.reduceEqDiff, ↓reduceIte, Nat.reduceAdd, Nat.reduceLT, Nat.reduceLeDiff, Nat.reduceSub, Nat.reduceMul, Int.reduceLT, Int.reduceLE, Int.reduceToNat, Int.reduceNeg, Int.reduceEq, Int.reduceAdd, Int.reduceSub, Int.reduceMul, reduceCtorEq, h0, h1, h5, h6, h20, h21, h22, hlt', hn, hB, hO, wrap_i64]
        refine callF.plain ?_
        have hs := valL_set (l := L) (i := y.length) (by omega) c
        have hds := Dig_set (l := L) (i := y.length) (by omega) hd hc0 (by omega)
        refine trim_num σ.n (y.length + 1) (L.set y.length c) (valL y + valL x).toNat _ _ ?_ ?_ ?_ ?_ hds ?_ _ fun hle hcut => ?_
        · simp only [St_put_n, hn]; omega
        · simp -implicitDefEqProofs (disch := (first | omega | (simp only [go_sem] <;> omega) | fail)) only [go_sem, Nat.reduceEqDiff, ↓reduceIte, Nat.reduceAdd, Nat.reduceLT, Nat.reduceLeDiff, Nat.reduceSub, Nat.reduceMul, Int.reduceLT, Int.reduceLE, Int.reduceToNat, Int.reduceNeg, Int.reduceEq, Int.reduceAdd, Int.reduceSub, Int.reduceMul, reduceCtorEq, hB]
        · simp [hL]
        · omega
        · rw [hs, hv, List.take_of_length_le (Nat.le_refl y.length), List.take_of_length_le hle]
          have := valL_nonneg hy
          have := valL_nonneg hx
          omega
        · simp -implicitDefEqProofs (disch := (first | omega | (simp only [go_sem] <;> omega) | fail)) only [go_sem, Nat.reduceEqDiff, ↓reduceIte, Nat.reduceAdd, Nat.reduceLT, Nat.reduceLeDiff, Nat.reduceSub, Nat.reduceMul, Int.reduceLT, Int.reduceLE, Int.reduceToNat, Int.reduceNeg, Int.reduceEq, Int.reduceAdd, Int.reduceSub, Int.reduceMul, reduceCtorEq, hB, hn, hO, hcut]
          exact h
  · have hsw' : ¬ (x.length : Int) < y.length := by omega
    have hle : y.length ≤ x.length := by omega
    simp -implicitDefEqProofs (disch := (first | omega | (simp only [go_sem] <;> omega) | fail)) only [go_sem, Nat.reduceEqDiff, ↓reduceIte, Nat.reduceAdd, Nat.reduceLT, Nat.reduceLeDiff, Nat.reduceSub, Nat.reduceMul, Int.reduceLT, Int.reduceLE, Int.reduceToNat, Int.reduceNeg, Int.reduceEq, Int.reduceAdd, Int.reduceSub, Int.reduceMul, reduceCtorEq, wrap_i64, hsw']
    refine Sat.loopW (fun (t : Nat) e' σ' => ∃ i L c, t = x.length - i ∧ i ≤ x.length ∧ e' 0 = sl intRow x ∧ e' 1 = sl intRow y ∧ e' 5 = .os σ.n 0 (x.length + 1) ∧ e' 6 = .lit (.int .i64 c) ∧ e' 20 = sl intRow x ∧ e' 21 = .lit (.int .i64 x.length) ∧ e' 22 = .lit (.int .i64 (i : Nat)) ∧
      σ'.n = σ.n + 1 ∧ σ'.h σ.n = bl intRow 1 L ∧ Old σ σ' ∧ L.length = x.length + 1 ∧ Dig (L.take i) ∧ 0 ≤ c ∧ c ≤ 1 ∧ valL (L.take i) + 1000000000 ^ i * c = valL (x.take i) + valL (y.take i)) (fun t => t) x.length rfl ?_ ?_
    · simp -implicitDefEqProofs (disch := (first | omega | (simp only [go_sem] <;> omega) | fail)) only [go_sem, Nat.reduceEqDiff, ↓reduceIte, Nat.reduceAdd, Nat.reduceLT, Nat.reduceLeDiff, Nat.reduceSub, Nat.reduceMul, Int.reduceLT, Int.reduceLE, Int.reduceToNat, Int.reduceNeg, Int.reduceEq, Int.reduceAdd, Int.reduceSub, Int.reduceMul, reduceCtorEq]
      refine ⟨0, List.replicate (x.length + 1) 0, 0, ?_⟩
      have e1 : ((x.length : Int) + 1).toNat = x.length + 1 := by omega
      rw [e1]
      refine ⟨by omega, by omega, rfl, rfl, rfl, rfl, by simp, by simp [Dig], by omega, by omega, by simp [valL]⟩
    · rintro t e1 σ1 ⟨i, L, c, rfl, hi, h0, h1, h5, h6, h20, h21, h22, hn, hB, hO, hL, hd, hc0, hc1, hv⟩
      have hvx := valL_take_succ x i
      have hvy := valL_take_succ y i
      by_cases hlt : i < x.length
      · have hlt' : (i : Int) < x.length := by omega
        have hxi := hx.getD i
        have hyi := hy.getD i
        by_cases hiy : i < y.length
        · have hiy' : (i : Int) < y.length := by omega
          simp -implicitDefEqProofs (disch := (first | omega | (simp only [go_sem] <;> omega) | fail)) only [go_sem, Nat.reduceEqDiff, ↓reduceIte, Nat.reduceAdd, Nat.reduceLT, Nat.reduceLeDiff, Nat.reduceSub, Nat.reduceMul, Int.reduceLT, Int.reduceLE, Int.reduceToNat, Int.reduceNeg, Int.reduceEq, Int.reduceAdd, Int.reduceSub, Int.reduceMul, reduceCtorEq, h0, h1, h5, h6, h20, h21, h22, hlt', hiy', hn, hB, hO, wrap_i64, getD_int, tmod_pos, tdiv_pos]
          have hs := valL_set (l := L) (i := i) (by omega) ((x.getD i 0 + c + y.getD i 0) % 1000000000)
          refine ⟨x.length - (i + 1), by omega, i + 1, L.set i ((x.getD i 0 + c + y.getD i 0) % 1000000000), (x.getD i 0 + c + y.getD i 0) / 1000000000, rfl, by omega, rfl, rfl, rfl, by simpa using hL, Dig_set (by omega) hd (by omega) (by omega), by omega, by omega, ?_⟩
          rw [hs, hvx, hvy, Int.pow_succ]
          exact carry_step hv (by omega)
        · have hiy' : ¬ (i : Int) < y.length := by omega
          have hy0 : y.getD i 0 = 0 := by simp [List.getD, List.getElem?_eq_none (Nat.le_of_not_lt hiy)]
          simp -implicitDefEqProofs (disch := (first | omega | (simp only [go_sem] <;> omega) | fail)) only [go_sem, Nat.reduceEqDiff, ↓reduceIte, Nat.reduceAdd, Nat.reduceLT, Nat.reduceLeDiff, Nat.reduceSub, Nat.reduceMul, Int.reduceLT, Int.reduceLE, Int.reduceToNat, Int.reduceNeg, Int.reduceEq, Int.reduceAdd, Int.reduceSub, Int.reduceMul, reduceCtorEq, h0, h1, h5, h6, h20, h21, h22, hlt', hiy', hn, hB, hO, wrap_i64, getD_int, tmod_pos, tdiv_pos]
          have hs := valL_set (l := L) (i := i) (by omega) ((x.getD i 0 + c) % 1000000000)
          refine ⟨x.length - (i + 1), by omega, i + 1, L.set i ((x.getD i 0 + c) % 1000000000), (x.getD i 0 + c) / 1000000000, rfl, by omega, rfl, rfl, rfl, by simpa using hL, Dig_set (by omega) hd (by omega) (by omega), by omega, by omega, ?_⟩
          rw [hs, hvx, hvy, Int.pow_succ]
          exact carry_step hv (by omega)
      · have hlt' : ¬ (i : Int) < x.length := by omega
        have hie : i = x.length := by omega
        subst hie
        simp -implicitDefEqProofs (disch := (first | omega | (simp only [go_sem] <;> omega) | fail)) only [go_sem, Nat.reduceEqDiff, ↓reduceIte, Nat.reduceAdd, Nat.reduceLT, Nat.reduceLeDiff, Nat.reduceSub, Nat.reduceMul, Int.reduceLT, Int.reduceLE, Int.reduceToNat, Int.reduceNeg, Int.reduceEq, Int.reduceAdd, Int.reduceSub, Int.reduceMul, reduceCtorEq, h0, h1, h5, h6, h20, h21, h22, hlt', hn, hB, hO, wrap_i64]
        refine callF.plain ?_
        have hs := valL_set (l := L) (i := x.length) (by omega) c
        have hds := Dig_set (l := L) (i := x.length) (by omega) hd hc0 (by omega)
        refine trim_num σ.n (x.length + 1) (L.set x.length c) (valL x + valL y).toNat _ _ ?_ ?_ ?_ ?_ hds ?_ _ fun hle hcut => ?_
        · simp only [St_put_n, hn]; omega
        · simp -implicitDefEqProofs (disch := (first | omega | (simp only [go_sem] <;> omega) | fail)) only [go_sem, Nat.reduceEqDiff, ↓reduceIte, Nat.reduceAdd, Nat.reduceLT, Nat.reduceLeDiff, Nat.reduceSub, Nat.reduceMul, Int.reduceLT, Int.reduceLE, Int.reduceToNat, Int.reduceNeg, Int.reduceEq, Int.reduceAdd, Int.reduceSub, Int.reduceMul, reduceCtorEq, hB]
        · simp [hL]
        · omega
        · rw [hs, hv, List.take_of_length_le (Nat.le_refl x.length), List.take_of_length_le hle]
          have := valL_nonneg hx
          have := valL_nonneg hy
          omega
        · simp -implicitDefEqProofs (disch := (first | omega | (simp only [go_sem] <;> omega) | fail)) only [go_sem, Nat.reduceEqDiff, ↓reduceIte, Nat.reduceAdd, Nat.reduceLT, Nat.reduceLeDiff, Nat.reduceSub, Nat.reduceMul, Int.reduceLT, Int.reduceLE, Int.reduceToNat, Int.reduceNeg, Int.reduceEq, Int.reduceAdd, Int.reduceSub, Int.reduceMul, reduceCtorEq, hB, hn, hO, hcut]
          exact h

set_option maxRecDepth 100000 in
set_option maxHeartbeats 1000000 in
theorem minus_ok (x y : List Int) (hx : Dig x) (hy : Dig y) (hlx : x.length ≤ 1000000) (hly : y.length ≤ x.length) (hle : valL y ≤ valL x) (e : Env) (σ : St) (K : KT) (h : K (ints (limbs (valL x - valL y).toNat)) e σ) : ACall Tryz.prog 169 [ints x, ints y] e σ K := by
  refine ACall.pureW Tryz.func169 rfl Tryz.ntmps169 Tryz.results169 rfl rfl rfl ?_
  simp -implicitDefEqProofs (disch := (first | omega | (simp only [go_sem] <;> omega) | fail)) only [go_sem, Nat.reduceEqDiff, ↓reduceIte, Nat.reduceAdd, Nat.reduceLT, Nat.reduceLeDiff, Nat.reduceSub, Nat.reduceMul, Int.reduceLT, Int.reduceLE, Int.reduceToNat, Int.reduceNeg, Int.reduceEq, Int.reduceAdd, Int.reduceSub, Int.reduceMul, reduceCtorEq, wrap_i64]
  refine Sat.loopW (fun (t : Nat) e' σ' => ∃ i L c, t = x.length - i ∧ i ≤ x.length ∧ e' 0 = sl intRow x ∧ e' 1 = sl intRow y ∧ e' 5 = .os σ.n 0 x.length ∧ e' 6 = .lit (.int .i64 c) ∧ e' 12 = sl intRow x ∧ e' 13 = .lit (.int .i64 x.length) ∧ e' 14 = .lit (.int .i64 (i : Nat)) ∧
    σ'.n = σ.n + 1 ∧ σ'.h σ.n = bl intRow 1 L ∧ Old σ σ' ∧ L.length = x.length ∧ Dig (L.take i) ∧ 0 ≤ c ∧ c ≤ 1 ∧ valL (L.take i) + 1000000000 ^ i * (-c) = valL (x.take i) + -valL (y.take i)) (fun t => t) x.length rfl ?_ ?_
  · simp -implicitDefEqProofs (disch := (first | omega | (simp only [go_sem] <;> omega) | fail)) only [go_sem, Nat.reduceEqDiff, ↓reduceIte, Nat.reduceAdd, Nat.reduceLT, Nat.reduceLeDiff, Nat.reduceSub, Nat.reduceMul, Int.reduceLT, Int.reduceLE, Int.reduceToNat, Int.reduceNeg, Int.reduceEq, Int.reduceAdd, Int.reduceSub, Int.reduceMul, reduceCtorEq]
    refine ⟨0, List.replicate x.length 0, 0, ?_⟩
    refine ⟨by omega, by omega, rfl, rfl, by simp, by simp, by simp [Dig], by omega, by omega, by simp [valL]⟩
  · rintro t e1 σ1 ⟨i, L, c, rfl, hi, h0, h1, h5, h6, h20, h21, h22, hn, hB, hO, hL, hd, hc0, hc1, hv⟩
    have hvx := valL_take_succ x i
    have hvy := valL_take_succ y i
    by_cases hlt : i < x.length
    · have hlt' : (i : Int) < x.length := by omega
      have hxi := hx.getD i
      have hyi := hy.getD i
      have hdig : ∀ d k : Int, x.getD i 0 - c - y.getD i 0 = d - 1000000000 * k → 0 ≤ d → d < 1000000000 → 0 ≤ k → k ≤ 1 → Dig ((L.set i d).take (i + 1)) ∧ valL ((L.set i d).take (i + 1)) + 1000000000 ^ (i + 1) * (-k) = valL (x.take (i + 1)) + -valL (y.take (i + 1)) := by
        intro d k hdk hd0 hd1 hk0 hk1
        refine ⟨Dig_set (by omega) hd hd0 hd1, ?_⟩
        rw [valL_set (by omega), hvx, hvy, Int.pow_succ, Int.neg_add, ← Int.mul_neg]
        exact carry_step hv (by omega)
      have hy0 : ¬ i < y.length → y.getD i 0 = 0 := fun h => by simp [List.getD, List.getElem?_eq_none (Nat.le_of_not_lt h)]
      by_cases hneg : x.getD i 0 - c - y.getD i 0 < 0
      · obtain ⟨g1, g2⟩ := hdig (x.getD i 0 - c - y.getD i 0 + 1000000000) 1 (by omega) (by omega) (by omega) (by omega) (by omega)
        by_cases hiy : i < y.length
        · have hiy' : (i : Int) < y.length := by omega
          simp -implicitDefEqProofs (disch := (first | omega | (simp only [go_sem] <;> omega) | fail)) only [go_sem, Nat.reduceEqDiff, ↓reduceIte, Nat.reduceAdd, Nat.reduceLT, Nat.reduceLeDiff, Nat.reduceSub, Nat.reduceMul, Int.reduceLT, Int.reduceLE, Int.reduceToNat, Int.reduceNeg, Int.reduceEq, Int.reduceAdd, Int.reduceSub, Int.reduceMul, reduceCtorEq, h0, h1, h5, h6, h20, h21, h22, hlt', hiy', hn, hB, hO, wrap_i64, getD_int, hneg]
          exact ⟨x.length - (i + 1), by omega, i + 1, L.set i _, 1, rfl, by omega, rfl, rfl, rfl, by simpa using hL, g1, by omega, by omega, g2⟩
        · have hiy' : ¬ (i : Int) < y.length := by omega
          rw [hy0 hiy, Int.sub_zero] at hneg g1 g2
          simp -implicitDefEqProofs (disch := (first | omega | (simp only [go_sem] <;> omega) | fail)) only [go_sem, Nat.reduceEqDiff, ↓reduceIte, Nat.reduceAdd, Nat.reduceLT, Nat.reduceLeDiff, Nat.reduceSub, Nat.reduceMul, Int.reduceLT, Int.reduceLE, Int.reduceToNat, Int.reduceNeg, Int.reduceEq, Int.reduceAdd, Int.reduceSub, Int.reduceMul, reduceCtorEq, h0, h1, h5, h6, h20, h21, h22, hlt', hiy', hn, hB, hO, wrap_i64, getD_int, hneg]
          exact ⟨x.length - (i + 1), by omega, i + 1, L.set i _, 1, rfl, by omega, rfl, rfl, rfl, by simpa using hL, g1, by omega, by omega, g2⟩
      · obtain ⟨g1, g2⟩ := hdig (x.getD i 0 - c - y.getD i 0) 0 (by omega) (by omega) (by omega) (by omega) (by omega)
        by_cases hiy : i < y.length
        · have hiy' : (i : Int) < y.length := by omega
          simp -implicitDefEqProofs (disch := (first | omega | (simp only [go_sem] <;> omega) | fail)) only [go_sem, Nat.reduceEqDiff, ↓reduceIte, Nat.reduceAdd, Nat.reduceLT, Nat.reduceLeDiff, Nat.reduceSub, Nat.reduceMul, Int.reduceLT, Int.reduceLE, Int.reduceToNat, Int.reduceNeg, Int.reduceEq, Int.reduceAdd, Int.reduceSub, Int.reduceMul, reduceCtorEq, h0, h1, h5, h6, h20, h21, h22, hlt', hiy', hn, hB, hO, wrap_i64, getD_int, hneg]
          exact ⟨x.length - (i + 1), by omega, i + 1, L.set i _, 0, rfl, by omega, rfl, rfl, rfl, by simpa using hL, g1, by omega, by omega, g2⟩
        · have hiy' : ¬ (i : Int) < y.length := by omega
          rw [hy0 hiy, Int.sub_zero] at hneg g1 g2
          simp -implicitDefEqProofs (disch := (first | omega | (simp only [go_sem] <;> omega) | fail)) only [go_sem, Nat.reduceEqDiff, ↓reduceIte, Nat.reduceAdd, Nat.reduceLT, Nat.reduceLeDiff, Nat.reduceSub, Nat.reduceMul, Int.reduceLT, Int.reduceLE, Int.reduceToNat, Int.reduceNeg, Int.reduceEq, Int.reduceAdd, Int.reduceSub, Int.reduceMul, reduceCtorEq, h0, h1, h5, h6, h20, h21, h22, hlt', hiy', hn, hB, hO, wrap_i64, getD_int, hneg]
          exact ⟨x.length - (i + 1), by omega, i + 1, L.set i _, 0, rfl, by omega, rfl, rfl, rfl, by simpa using hL, g1, by omega, by omega, g2⟩
    · have hlt' : ¬ (i : Int) < x.length := by omega
      have hie : i = x.length := by omega
      subst hie
      simp -implicitDefEqProofs (disch := (first | omega | (simp only [go_sem] <;> omega) | fail)) only [go_sem, Nat.reduceEqDiff, ↓reduceIte, Nat.reduceAdd, Nat.reduceLT, Nat.reduceLeDiff, Nat.reduceSub, Nat.reduceMul, Int.reduceLT, Int.reduceLE, Int.reduceToNat, Int.reduceNeg, Int.reduceEq, Int.reduceAdd, Int.reduceSub, Int.reduceMul, reduceCtorEq, h0, h1, h5, h6, h20, h21, h22, hlt', hn, hB, hO, wrap_i64]
      refine callF.plain ?_
      rw [List.take_of_length_le (Nat.le_refl x.length), List.take_of_length_le hly] at hv
      have hxx : valL (L.take x.length) = (valL x - valL y).toNat := by
        have h1 := valL_nonneg hd
        have h2 := valL_lt hd
        rw [List.length_take, Nat.min_eq_left (by omega)] at h2
        generalize (1000000000 : Int) ^ x.length = p at hv h2
        have : c = 0 ∨ c = 1 := by omega
        rcases this with rfl | rfl
        · omega
        · omega
      refine trim_num σ.n x.length L (valL x - valL y).toNat _ _ ?_ hB ?_ ?_ hd hxx _ fun hle hcut => ?_
      · omega
      · omega
      · omega
      · simp -implicitDefEqProofs (disch := (first | omega | (simp only [go_sem] <;> omega) | fail)) only [go_sem, Nat.reduceEqDiff, ↓reduceIte, Nat.reduceAdd, Nat.reduceLT, Nat.reduceLeDiff, Nat.reduceSub, Nat.reduceMul, Int.reduceLT, Int.reduceLE, Int.reduceToNat, Int.reduceNeg, Int.reduceEq, Int.reduceAdd, Int.reduceSub, Int.reduceMul, reduceCtorEq, hB, hn, hO, hcut]
        exact h
end Go.Proofs.Qqz
