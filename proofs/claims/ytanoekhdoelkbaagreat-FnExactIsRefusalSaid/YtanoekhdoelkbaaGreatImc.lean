/- Contracts: products. -/
import Derived.Test.YtanoekhdoelkbaaGreatImb
set_option linter.unusedSimpArgs false
set_option linter.unusedVariables false
namespace Go.Proofs.Qqz
open Go

theorem sl_nil_eq {α : Type} (f : α → List AV) : sl f [] = .ps [] := rfl

set_option maxRecDepth 100000 in
set_option maxHeartbeats 1000000 in
/-- The product, in a block that the caller may write to. -/
theorem times_own (x y : List Int) (hx : Dig x) (hy : Dig y) (hlx : x.length ≤ 1000000) (hly : y.length ≤ 1000000) (hx0 : ¬ x.length = 0) (hy0 : ¬ y.length = 0) (e : Env) (σ : St) (K : KT)
    (h : ∀ σ' L, σ'.n = σ.n + 1 → σ'.h σ.n = bl intRow 1 L → Old σ σ' → (limbs (valL x * valL y).toNat).length ≤ L.length → L.take (limbs (valL x * valL y).toNat).length = limbs (valL x * valL y).toNat → K (.os σ.n 0 (limbs (valL x * valL y).toNat).length) e σ') : ACall Tryz.prog 145 [ints x, ints y] e σ K := by
  refine ACall.bareW Tryz.func145 rfl Tryz.ntmps145 Tryz.results145 rfl rfl rfl ?_
  have hx0' : ¬ (x.length : Int) = 0 := by omega
  have hy0' : ¬ (y.length : Int) = 0 := by omega
  simp -implicitDefEqProofs (disch := (first | omega | (simp only [go_sem] <;> omega) | fail)) only [go_sem, Nat.reduceEqDiff, ↓reduceIte, Nat.reduceAdd, Nat.reduceLT, Nat.reduceLeDiff, Nat.reduceSub, Nat.reduceMul, Int.reduceLT, Int.reduceLE, Int.reduceToNat, Int.reduceNeg, Int.reduceEq, Int.reduceAdd, Int.reduceSub, Int.reduceMul, reduceCtorEq, hx0', hy0', wrap_i64]
  refine Sat.loopW (fun (t : Nat) e' σ' => ∃ i L, t = x.length - i ∧ i ≤ x.length ∧ e' 0 = sl intRow x ∧ e' 1 = sl intRow y ∧ e' 5 = .os σ.n 0 (x.length + y.length) ∧ e' 26 = sl intRow x ∧ e' 27 = .lit (.int .i64 x.length) ∧ e' 28 = .lit (.int .i64 (i : Nat)) ∧
    σ'.n = σ.n + 1 ∧ σ'.h σ.n = bl intRow 1 L ∧ Old σ σ' ∧ L.length = x.length + y.length ∧ Dig L ∧ valL L = valL (x.take i) * valL y ∧ ∀ k, i + y.length ≤ k → L.getD k 0 = 0) (fun t => t) x.length rfl ?_ ?_
  · have e1 : ((x.length : Int) + y.length).toNat = x.length + y.length := by omega
    simp -implicitDefEqProofs (disch := (first | omega | (simp only [go_sem] <;> omega) | fail)) only [go_sem, Nat.reduceEqDiff, ↓reduceIte, Nat.reduceAdd, Nat.reduceLT, Nat.reduceLeDiff, Nat.reduceSub, Nat.reduceMul, Int.reduceLT, Int.reduceLE, Int.reduceToNat, Int.reduceNeg, Int.reduceEq, Int.reduceAdd, Int.reduceSub, Int.reduceMul, reduceCtorEq, e1]
    refine ⟨0, List.replicate (x.length + y.length) 0, by omega, by omega, rfl, rfl, by simp, ?_, ?_, ?_⟩
    · intro z hz; rw [List.mem_replicate] at hz; omega
    · have : ∀ n, valL (List.replicate n 0) = 0 := by
        intro n; induction n with
        | zero => rfl
        | succ n ih => rw [List.replicate_succ, valL, ih]; rfl
      rw [this]; simp [valL]
    · intro k _
      simp only [List.getD, List.getElem?_replicate]; split <;> rfl
  · rintro t e1 σ1 ⟨i, L, rfl, hi, h0, h1, h5, h26, h27, h28, hn, hB, hO, hL, hd, hv, hz⟩
    have hvx := valL_take_succ x i
    by_cases hlt : i < x.length
    · have hlt' : (i : Int) < x.length := by omega
      have hxi := hx.getD i
      simp -implicitDefEqProofs (disch := (first | omega | (simp only [go_sem] <;> omega) | fail)) only [go_sem, Nat.reduceEqDiff, ↓reduceIte, Nat.reduceAdd, Nat.reduceLT, Nat.reduceLeDiff, Nat.reduceSub, Nat.reduceMul, Int.reduceLT, Int.reduceLE, Int.reduceToNat, Int.reduceNeg, Int.reduceEq, Int.reduceAdd, Int.reduceSub, Int.reduceMul, reduceCtorEq, h0, h1, h5, h26, h27, h28, hlt', hn, hB, hO, wrap_i64, getD_int]
      refine Sat.loopW (fun (t : Nat) e' σ' => ∃ j L c, t = y.length - j ∧ j ≤ y.length ∧ e' 0 = sl intRow x ∧ e' 1 = sl intRow y ∧ e' 5 = .os σ.n 0 (x.length + y.length) ∧ e' 26 = sl intRow x ∧ e' 27 = .lit (.int .i64 x.length) ∧ e' 28 = .lit (.int .i64 (i : Nat)) ∧
        e' 6 = .lit (.int .i64 (i : Nat)) ∧ e' 7 = .lit (.int .i64 (x.getD i 0)) ∧ e' 8 = .lit (.int .i64 c) ∧ e' 33 = sl intRow y ∧ e' 34 = .lit (.int .i64 y.length) ∧ e' 35 = .lit (.int .i64 (j : Nat)) ∧
        σ'.n = σ.n + 1 ∧ σ'.h σ.n = bl intRow 1 L ∧ Old σ σ' ∧ L.length = x.length + y.length ∧ Dig L ∧ 0 ≤ c ∧ c < 1000000000 ∧ valL L + 1000000000 ^ (i + j) * c = valL (x.take i) * valL y + x.getD i 0 * (1000000000 ^ i * valL (y.take j)) ∧ ∀ k, i + y.length ≤ k → L.getD k 0 = 0) (fun t => t) y.length rfl ?_ ?_
      · simp -implicitDefEqProofs (disch := (first | omega | (simp only [go_sem] <;> omega) | fail)) only [go_sem, Nat.reduceEqDiff, ↓reduceIte, Nat.reduceAdd, Nat.reduceLT, Nat.reduceLeDiff, Nat.reduceSub, Nat.reduceMul, Int.reduceLT, Int.reduceLE, Int.reduceToNat, Int.reduceNeg, Int.reduceEq, Int.reduceAdd, Int.reduceSub, Int.reduceMul, reduceCtorEq, h0, h1, h5, h26, h27, h28]
        exact ⟨0, L, 0, by omega, by omega, rfl, rfl, hn, hB, hO, hL, hd, by omega, by omega, by simp [valL, hv], hz⟩
      · clear hz hv hd hL hO hB hn h28 h27 h26 h5 h1 h0
        rintro t e2 σ2 ⟨j, L, c, rfl, hj, h0, h1, h5, h26, h27, h28, h6, h7, h8, h33, h34, h35, hn, hB, hO, hL, hd, hc0, hc1, hv, hz⟩
        by_cases hjt : j < y.length
        · have hjt' : (j : Int) < y.length := by omega
          have hyj := hy.getD j
          have hLij := hd.getD (i + j)
          have hm := mulDig hxi hyj
          have hij : ((i : Int) + (j : Int)).toNat = i + j := by omega
          simp -implicitDefEqProofs (disch := (first | omega | (simp only [go_sem] <;> omega) | fail)) only [go_sem, Nat.reduceEqDiff, ↓reduceIte, Nat.reduceAdd, Nat.reduceLT, Nat.reduceLeDiff, Nat.reduceSub, Nat.reduceMul, Int.reduceLT, Int.reduceLE, Int.reduceToNat, Int.reduceNeg, Int.reduceEq, Int.reduceAdd, Int.reduceSub, Int.reduceMul, reduceCtorEq, h0, h1, h5, h26, h27, h28, h6, h7, h8, h33, h34, h35, hjt', hn, hB, hO, wrap_i64, getD_int, hij, tmod_pos, tdiv_pos]
          refine ⟨y.length - (j + 1), by omega, j + 1, L.set (i + j) ((L.getD (i + j) 0 + x.getD i 0 * y.getD j 0 + c) % 1000000000), (L.getD (i + j) 0 + x.getD i 0 * y.getD j 0 + c) / 1000000000, rfl, by omega, rfl, rfl, rfl, by simpa using hL, hd.set _ (by omega) (by omega), by omega, by omega, ?_, fun k hk => ?_⟩
          · rw [valL_set_at _ _ _ (by omega), valL_take_succ y j, ← Nat.add_assoc, Int.pow_succ]
            exact mul_step hv (by omega) (Int.pow_add _ _ _)
          · rw [getD_set_ne' (by omega)]; exact hz k hk
        · have hjt' : ¬ (j : Int) < y.length := by omega
          have hje : j = y.length := by omega
          subst hje
          have hij : ((i : Int) + (y.length : Int)).toNat = i + y.length := by omega
          have hlast := hz (i + y.length) (Nat.le_refl _)
          simp -implicitDefEqProofs (disch := (first | omega | (simp only [go_sem] <;> omega) | fail)) only [go_sem, Nat.reduceEqDiff, ↓reduceIte, Nat.reduceAdd, Nat.reduceLT, Nat.reduceLeDiff, Nat.reduceSub, Nat.reduceMul, Int.reduceLT, Int.reduceLE, Int.reduceToNat, Int.reduceNeg, Int.reduceEq, Int.reduceAdd, Int.reduceSub, Int.reduceMul, reduceCtorEq, h0, h1, h5, h26, h27, h28, h6, h7, h8, h33, h34, h35, hjt', hn, hB, hO, wrap_i64, getD_int, hij]
          refine ⟨x.length - (i + 1), by omega, i + 1, L.set (i + y.length) c, rfl, by omega, rfl, rfl, by simpa using hL, hd.set _ hc0 hc1, ?_, fun k hk => ?_⟩
          · rw [valL_set_at _ _ _ (by omega), hvx, hlast]
            rw [List.take_of_length_le (Nat.le_refl y.length)] at hv
            exact mul_row hv
          · rw [getD_set_ne' (by omega)]; exact hz k (by omega)
    · have hlt' : ¬ (i : Int) < x.length := by omega
      have hie : i = x.length := by omega
      subst hie
      simp -implicitDefEqProofs (disch := (first | omega | (simp only [go_sem] <;> omega) | fail)) only [go_sem, Nat.reduceEqDiff, ↓reduceIte, Nat.reduceAdd, Nat.reduceLT, Nat.reduceLeDiff, Nat.reduceSub, Nat.reduceMul, Int.reduceLT, Int.reduceLE, Int.reduceToNat, Int.reduceNeg, Int.reduceEq, Int.reduceAdd, Int.reduceSub, Int.reduceMul, reduceCtorEq, h0, h1, h5, h26, h27, h28, hlt', hn, hB, hO, wrap_i64]
      refine callF.plain ?_
      rw [List.take_of_length_le (Nat.le_refl x.length)] at hv
      have hLt : L.take (x.length + y.length) = L := List.take_of_length_le (by omega)
      refine trim_num σ.n (x.length + y.length) L (valL x * valL y).toNat _ _ (by omega) hB (by omega) (by omega) (by rw [hLt]; exact hd) ?_ _ fun hle hcut => ?_
      · rw [hLt, hv]
        have := Int.mul_nonneg (valL_nonneg hx) (valL_nonneg hy)
        omega
      · simp -implicitDefEqProofs (disch := (first | omega | (simp only [go_sem] <;> omega) | fail)) only [go_sem, Nat.reduceEqDiff, ↓reduceIte, Nat.reduceAdd, Nat.reduceLT, Nat.reduceLeDiff, Nat.reduceSub, Nat.reduceMul, Int.reduceLT, Int.reduceLE, Int.reduceToNat, Int.reduceNeg, Int.reduceEq, Int.reduceAdd, Int.reduceSub, Int.reduceMul, reduceCtorEq]
        exact h σ1 L hn hB hO hle hcut


set_option maxRecDepth 100000 in
set_option maxHeartbeats 1000000 in
theorem times_ok (x y : List Int) (hx : Dig x) (hy : Dig y) (hlx : x.length ≤ 1000000) (hly : y.length ≤ 1000000) (e : Env) (σ : St) (K : KT) (h : K (ints (limbs (valL x * valL y).toNat)) e σ) : ACall Tryz.prog 145 [ints x, ints y] e σ K := by
  by_cases hx0 : x.length = 0
  · refine ACall.pureW Tryz.func145 rfl Tryz.ntmps145 Tryz.results145 rfl rfl rfl ?_
    have hx0' : (x.length : Int) = 0 := by omega
    have : x = [] := List.eq_nil_of_length_eq_zero hx0
    simp -implicitDefEqProofs (disch := (first | omega | (simp only [go_sem] <;> omega) | fail)) only [go_sem, Nat.reduceEqDiff, ↓reduceIte, Nat.reduceAdd, Nat.reduceLT, Nat.reduceLeDiff, Nat.reduceSub, Nat.reduceMul, Int.reduceLT, Int.reduceLE, Int.reduceToNat, Int.reduceNeg, Int.reduceEq, Int.reduceAdd, Int.reduceSub, Int.reduceMul, reduceCtorEq, hx0']
    subst this
    simp only [valL, Int.zero_mul, Int.toNat_zero, limbs_zero] at h
    exact h
  have hx0' : ¬ (x.length : Int) = 0 := by omega
  by_cases hy0 : y.length = 0
  · refine ACall.pureW Tryz.func145 rfl Tryz.ntmps145 Tryz.results145 rfl rfl rfl ?_
    have hy0' : (y.length : Int) = 0 := by omega
    have : y = [] := List.eq_nil_of_length_eq_zero hy0
    simp -implicitDefEqProofs (disch := (first | omega | (simp only [go_sem] <;> omega) | fail)) only [go_sem, Nat.reduceEqDiff, ↓reduceIte, Nat.reduceAdd, Nat.reduceLT, Nat.reduceLeDiff, Nat.reduceSub, Nat.reduceMul, Int.reduceLT, Int.reduceLE, Int.reduceToNat, Int.reduceNeg, Int.reduceEq, Int.reduceAdd, Int.reduceSub, Int.reduceMul, reduceCtorEq, hx0', hy0']
    subst this
    simp only [valL, Int.mul_zero, Int.toNat_zero, limbs_zero] at h
    exact h
  refine ACall.close (times_own x y hx hy hlx hly hx0 hy0 e σ _ fun σ' L hn hB hO hle hcut => ?_)
  simp -implicitDefEqProofs (disch := (first | omega | (simp only [go_sem] <;> omega) | fail)) only [go_sem, Nat.reduceEqDiff, ↓reduceIte, Nat.reduceAdd, Nat.reduceLT, Nat.reduceLeDiff, Nat.reduceSub, Nat.reduceMul, Int.reduceLT, Int.reduceLE, Int.reduceToNat, Int.reduceNeg, Int.reduceEq, Int.reduceAdd, Int.reduceSub, Int.reduceMul, reduceCtorEq, hB, hn, hO, hcut]
  exact h

set_option maxRecDepth 100000 in
set_option maxHeartbeats 1000000 in
theorem overSmall_ok (x : List Int) (b : Int) (hx : Dig x) (hb : 0 < b) (hb2 : b ≤ 1000000000) (hlx : x.length ≤ 1000000) (e : Env) (σ : St) (K : KT)
    (h : K (.tup [ints (limbs (valL x / b).toNat), .lit (.int .i64 (valL x % b))]) e σ) : ACall Tryz.prog 176 [ints x, .lit (.int .i64 b)] e σ K := by
  refine ACall.pureW Tryz.func176 rfl Tryz.ntmps176 Tryz.results176 rfl rfl rfl ?_
  simp -implicitDefEqProofs (disch := (first | omega | (simp only [go_sem] <;> omega) | fail)) only [go_sem, Nat.reduceEqDiff, ↓reduceIte, Nat.reduceAdd, Nat.reduceLT, Nat.reduceLeDiff, Nat.reduceSub, Nat.reduceMul, Int.reduceLT, Int.reduceLE, Int.reduceToNat, Int.reduceNeg, Int.reduceEq, Int.reduceAdd, Int.reduceSub, Int.reduceMul, reduceCtorEq, wrap_i64]
  refine Sat.loopW (fun (t : Nat) e' σ' => ∃ L r, e' 0 = sl intRow x ∧ e' 1 = .lit (.int .i64 b) ∧ e' 6 = .os σ.n 0 x.length ∧ e' 7 = .lit (.int .i64 r) ∧ e' 8 = .lit (.int .i64 ((t : Int) - 1)) ∧ t ≤ x.length ∧
    σ'.n = σ.n + 1 ∧ σ'.h σ.n = bl intRow 1 L ∧ Old σ σ' ∧ L.length = x.length ∧ Dig (L.drop t) ∧ 0 ≤ r ∧ r < b ∧ valL (x.drop t) = b * valL (L.drop t) + r) (fun t => t) x.length rfl ?_ ?_
  · simp -implicitDefEqProofs (disch := (first | omega | (simp only [go_sem] <;> omega) | fail)) only [go_sem, Nat.reduceEqDiff, ↓reduceIte, Nat.reduceAdd, Nat.reduceLT, Nat.reduceLeDiff, Nat.reduceSub, Nat.reduceMul, Int.reduceLT, Int.reduceLE, Int.reduceToNat, Int.reduceNeg, Int.reduceEq, Int.reduceAdd, Int.reduceSub, Int.reduceMul, reduceCtorEq]
    refine ⟨List.replicate x.length 0, 0, rfl, by omega, rfl, by simp, ?_, by omega, hb, ?_⟩
    · rw [List.drop_of_length_le (by simp)]; exact Dig.nil
    · rw [List.drop_of_length_le (by simp), List.drop_of_length_le (by simp)]; simp [valL]
  · rintro t e1 σ1 ⟨L, r, h0, h1, h6, h7, h8, ht, hn, hB, hO, hL, hd, hr0, hr1, hv⟩
    by_cases hpos : 0 < t
    · obtain ⟨t, rfl⟩ : ∃ t', t = t' + 1 := ⟨t - 1, by omega⟩
      have hpos' : (0 : Int) ≤ ((t + 1 : Nat) : Int) - 1 := by omega
      have hxt := hx.getD t
      have hk : (((t + 1 : Nat) : Int) - 1).toNat = t := by omega
      obtain ⟨q0, q1, q2, q3, q4⟩ := div_step hb ⟨hr0, hr1⟩ hxt
      simp -implicitDefEqProofs (disch := (first | omega | (simp only [go_sem] <;> omega) | fail)) only [go_sem, Nat.reduceEqDiff, ↓reduceIte, Nat.reduceAdd, Nat.reduceLT, Nat.reduceLeDiff, Nat.reduceSub, Nat.reduceMul, Int.reduceLT, Int.reduceLE, Int.reduceToNat, Int.reduceNeg, Int.reduceEq, Int.reduceAdd, Int.reduceSub, Int.reduceMul, reduceCtorEq, h0, h1, h6, h7, h8, hpos', hk, hn, hB, hO, wrap_i64, getD_int]
      refine Sat.drawn0 [9] mixed (by kernel_rfl) ?_
      simp -implicitDefEqProofs (disch := (first | omega | (simp only [go_sem] <;> omega) | fail)) only [go_sem, Nat.reduceEqDiff, ↓reduceIte, Nat.reduceAdd, Nat.reduceLT, Nat.reduceLeDiff, Nat.reduceSub, Nat.reduceMul, Int.reduceLT, Int.reduceLE, Int.reduceToNat, Int.reduceNeg, Int.reduceEq, Int.reduceAdd, Int.reduceSub, Int.reduceMul, reduceCtorEq, h0, h1, h6, h7, h8, hpos', hk, hn, hB, hO, wrap_i64, getD_int, tdiv_pos', tmod_pos']
      refine ⟨t, by omega, L.set t ((r * 1000000000 + x.getD t 0) / b), _, rfl, ?_, by omega, rfl, by simpa using hL, ?_, q2, q3, ?_⟩
      · congr 2; omega
      · rw [drop_set (by omega), Dig.cons]; exact ⟨⟨q0, q1⟩, hd⟩
      · rw [drop_set (by omega), valL_drop (by omega), hv, valL]
        generalize (r * 1000000000 + x.getD t 0) / b = q at *
        generalize (r * 1000000000 + x.getD t 0) % b = s at *
        grind
    · have hpos' : ¬ (0 : Int) ≤ (t : Int) - 1 := by omega
      have : t = 0 := by omega
      subst this
      simp only [List.drop_zero] at hd hv
      have hq : valL x / b = valL L ∧ valL x % b = r := by
        rw [Int.ediv_emod_unique hb]
        exact ⟨by rw [hv]; omega, hr0, hr1⟩
      simp -implicitDefEqProofs (disch := (first | omega | (simp only [go_sem] <;> omega) | fail)) only [go_sem, Nat.reduceEqDiff, ↓reduceIte, Nat.reduceAdd, Nat.reduceLT, Nat.reduceLeDiff, Nat.reduceSub, Nat.reduceMul, Int.reduceLT, Int.reduceLE, Int.reduceToNat, Int.reduceNeg, Int.reduceEq, Int.reduceAdd, Int.reduceSub, Int.reduceMul, reduceCtorEq, h0, h1, h6, h7, h8, hpos', hn, hB, hO, wrap_i64]
      refine callF.plain ?_
      have hLt : L.take x.length = L := List.take_of_length_le (by omega)
      have hnn := valL_nonneg hd
      rw [hq.1, hq.2] at h
      refine trim_num σ.n x.length L (valL L).toNat _ _ (by omega) hB (by omega) (by omega) (by rw [hLt]; exact hd) (by rw [hLt]; omega) _ fun hle hcut => ?_
      simp -implicitDefEqProofs (disch := (first | omega | (simp only [go_sem] <;> omega) | fail)) only [go_sem, Nat.reduceEqDiff, ↓reduceIte, Nat.reduceAdd, Nat.reduceLT, Nat.reduceLeDiff, Nat.reduceSub, Nat.reduceMul, Int.reduceLT, Int.reduceLE, Int.reduceToNat, Int.reduceNeg, Int.reduceEq, Int.reduceAdd, Int.reduceSub, Int.reduceMul, reduceCtorEq, h7, hB, hn, hO, hcut]
      exact h
end Go.Proofs.Qqz
