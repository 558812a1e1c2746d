/- Contracts: limbs cut, made and compared. -/
import Derived.Test.YtanoekhdoelkbaaGreatNat
set_option linter.unusedSimpArgs false
set_option linter.unusedVariables false
namespace Go.Proofs.Qqz
open Go

theorem getLast_getD {m : List Int} (h : 0 < m.length) : m.getLast? = some (m.getD (m.length - 1) 0) := by
  have h1 : m.length - 1 < m.length := by omega
  rw [List.getLast?_eq_getElem?, List.getD, List.getElem?_eq_getElem h1]; rfl

theorem trimL_step {m : List Int} (h : 0 < m.length) (h0 : m.getD (m.length - 1) 0 = 0) : trimL m = trimL m.dropLast := by
  rw [trimL, getLast_getD h, h0, if_pos rfl]
theorem trimL_stop {m : List Int} (h : 0 < m.length) (h0 : ¬ m.getD (m.length - 1) 0 = 0) : trimL m = m := by
  rw [trimL, getLast_getD h, if_neg (by simpa using h0)]
theorem trimL_nil {m : List Int} (h : ¬ 0 < m.length) : trimL m = m := by
  have : m = [] := List.eq_nil_of_length_eq_zero (by omega)
  subst this; rw [trimL]; simp
theorem toNat_pred {n : Nat} (h : 0 < n) : ((n : Int) - 1).toNat = n - 1 := by omega

set_option maxRecDepth 100000 in
set_option maxHeartbeats 1000000 in
theorem trim_ok (l : List Int) (hl : l.length ≤ 1000000000) (e : Env) (σ : St) (K : KT) (h : K (ints (trimL l)) e σ) : ACall Tryz.prog 170 [ints l] e σ K := by
  refine ACall.pureW Tryz.func170 rfl Tryz.ntmps170 Tryz.results170 rfl rfl rfl ?_
  simp -implicitDefEqProofs (disch := (first | omega | (simp only [go_sem] <;> omega) | fail)) only [go_sem, Nat.reduceEqDiff, ↓reduceIte, Nat.reduceAdd, Nat.reduceLT, Nat.reduceLeDiff, Nat.reduceSub, Nat.reduceMul, Int.reduceLT, Int.reduceLE, Int.reduceToNat, Int.reduceNeg, Int.reduceEq, Int.reduceAdd, Int.reduceSub, Int.reduceMul, reduceCtorEq]
  refine Sat.loopW (fun (m : List Int) e' σ' => e' 0 = sl intRow m ∧ m.length ≤ 1000000000 ∧ trimL m = trimL l ∧ σ' = σ) (fun m => m.length) l rfl ?_ ?_
  · exact ⟨rfl, hl, rfl, rfl⟩
  · rintro m e1 σ1 ⟨h0, hm, htr, rfl⟩
    by_cases hpos : 0 < m.length
    · have hpos' : (0 : Int) < m.length := by omega
      have hn := toNat_pred hpos
      by_cases hx : m.getD (m.length - 1) 0 = 0
      · simp -implicitDefEqProofs (disch := (first | omega | (simp only [go_sem] <;> omega) | fail)) only [go_sem, Nat.reduceEqDiff, ↓reduceIte, Nat.reduceAdd, Nat.reduceLT, Nat.reduceLeDiff, Nat.reduceSub, Nat.reduceMul, Int.reduceLT, Int.reduceLE, Int.reduceToNat, Int.reduceNeg, Int.reduceEq, Int.reduceAdd, Int.reduceSub, Int.reduceMul, reduceCtorEq, h0, wrap_i64, hpos', getD_int, hn, hx]
        refine ⟨m.dropLast, by simp; omega, ?_, by simp; omega, ?_⟩
        · rw [List.dropLast_eq_take]; congr 2; omega
        · rw [← trimL_step hpos hx, htr]
      · simp -implicitDefEqProofs (disch := (first | omega | (simp only [go_sem] <;> omega) | fail)) only [go_sem, Nat.reduceEqDiff, ↓reduceIte, Nat.reduceAdd, Nat.reduceLT, Nat.reduceLeDiff, Nat.reduceSub, Nat.reduceMul, Int.reduceLT, Int.reduceLE, Int.reduceToNat, Int.reduceNeg, Int.reduceEq, Int.reduceAdd, Int.reduceSub, Int.reduceMul, reduceCtorEq, h0, wrap_i64, hpos', getD_int, hn, hx]
        rw [← htr, trimL_stop hpos hx] at h
        exact h
    · have hpos' : ¬ (0 : Int) < m.length := by omega
      simp -implicitDefEqProofs (disch := (first | omega | (simp only [go_sem] <;> omega) | fail)) only [go_sem, Nat.reduceEqDiff, ↓reduceIte, Nat.reduceAdd, Nat.reduceLT, Nat.reduceLeDiff, Nat.reduceSub, Nat.reduceMul, Int.reduceLT, Int.reduceLE, Int.reduceToNat, Int.reduceNeg, Int.reduceEq, Int.reduceAdd, Int.reduceSub, Int.reduceMul, reduceCtorEq, h0, wrap_i64, hpos', getD_int]
      rw [← htr, trimL_nil hpos] at h
      exact h

set_option maxRecDepth 100000 in
set_option maxHeartbeats 1000000 in
theorem trim_own (id len : Nat) (L : List Int) (e : Env) (σ : St) (hid : id < σ.n) (hB : σ.h id = bl intRow 1 L) (hlen : len ≤ L.length) (hl : len ≤ 1000000000) (K : KT) (h : K (.os id 0 (trimL (L.take len)).length) e σ) : ACall Tryz.prog 170 [.os id 0 len] e σ K := by
  refine ACall.pureW Tryz.func170 rfl Tryz.ntmps170 Tryz.results170 rfl rfl rfl ?_
  simp -implicitDefEqProofs (disch := (first | omega | (simp only [go_sem] <;> omega) | fail)) only [go_sem, Nat.reduceEqDiff, ↓reduceIte, Nat.reduceAdd, Nat.reduceLT, Nat.reduceLeDiff, Nat.reduceSub, Nat.reduceMul, Int.reduceLT, Int.reduceLE, Int.reduceToNat, Int.reduceNeg, Int.reduceEq, Int.reduceAdd, Int.reduceSub, Int.reduceMul, reduceCtorEq]
  refine Sat.loopW (fun (k : Nat) e' σ' => e' 0 = .os id 0 k ∧ k ≤ len ∧ trimL (L.take k) = trimL (L.take len) ∧ σ' = σ) (fun k => k) len rfl ?_ ?_
  · exact ⟨rfl, Nat.le_refl _, rfl, rfl⟩
  · rintro k e1 σ1 ⟨h0, hm, htr, rfl⟩
    have hlk : (L.take k).length = k := by simp; omega
    by_cases hpos : 0 < k
    · have hpos' : (0 : Int) < k := by omega
      have hn := toNat_pred hpos
      have hget : (L.take k).getD (k - 1) 0 = L.getD (k - 1) 0 := by
        simp only [List.getD, List.getElem?_take]; rw [if_pos (by omega)]
      by_cases hx : L.getD (k - 1) 0 = 0
      · simp -implicitDefEqProofs (disch := (first | omega | (simp only [go_sem] <;> omega) | fail)) only [go_sem, Nat.reduceEqDiff, ↓reduceIte, Nat.reduceAdd, Nat.reduceLT, Nat.reduceLeDiff, Nat.reduceSub, Nat.reduceMul, Int.reduceLT, Int.reduceLE, Int.reduceToNat, Int.reduceNeg, Int.reduceEq, Int.reduceAdd, Int.reduceSub, Int.reduceMul, reduceCtorEq, h0, wrap_i64, hpos', getD_int, hn, hB, hx]
        refine ⟨k - 1, by omega, ?_, by omega, ?_⟩
        · congr 1; omega
        · rw [← htr, trimL_step (m := L.take k) (by omega) (by rw [hlk, hget]; exact hx), List.dropLast_eq_take, hlk, List.take_take]
          congr 2; omega
      · simp -implicitDefEqProofs (disch := (first | omega | (simp only [go_sem] <;> omega) | fail)) only [go_sem, Nat.reduceEqDiff, ↓reduceIte, Nat.reduceAdd, Nat.reduceLT, Nat.reduceLeDiff, Nat.reduceSub, Nat.reduceMul, Int.reduceLT, Int.reduceLE, Int.reduceToNat, Int.reduceNeg, Int.reduceEq, Int.reduceAdd, Int.reduceSub, Int.reduceMul, reduceCtorEq, h0, wrap_i64, hpos', getD_int, hn, hB, hx]
        rw [← htr, trimL_stop (m := L.take k) (by omega) (by rw [hlk, hget]; exact hx), hlk] at h
        exact h
    · have hpos' : ¬ (0 : Int) < k := by omega
      simp -implicitDefEqProofs (disch := (first | omega | (simp only [go_sem] <;> omega) | fail)) only [go_sem, Nat.reduceEqDiff, ↓reduceIte, Nat.reduceAdd, Nat.reduceLT, Nat.reduceLeDiff, Nat.reduceSub, Nat.reduceMul, Int.reduceLT, Int.reduceLE, Int.reduceToNat, Int.reduceNeg, Int.reduceEq, Int.reduceAdd, Int.reduceSub, Int.reduceMul, reduceCtorEq, h0, wrap_i64, hpos', getD_int]
      rw [← htr, trimL_nil (m := L.take k) (by omega), hlk] at h
      exact h

/-- The same, by the number that the limbs stand for. -/
theorem trim_num (id len : Nat) (L : List Int) (v : Nat) (e : Env) (σ : St) (hid : id < σ.n) (hB : σ.h id = bl intRow 1 L) (hlen : len ≤ L.length) (hl : len ≤ 1000000000) (hd : Dig (L.take len)) (hv : valL (L.take len) = v) (K : KT)
    (h : (limbs v).length ≤ L.length → L.take (limbs v).length = limbs v → K (.os id 0 (limbs v).length) e σ) : ACall Tryz.prog 170 [.os id 0 len] e σ K := by
  refine trim_own id len L e σ hid hB hlen hl K ?_
  obtain ⟨h1, h2, h3⟩ := cut_block hd hv
  rw [trimL_eq hd, hv]
  exact h h1 h3

theorem tmod_nat (n : Nat) : ((n : Int)).tmod 1000000000 = ((n % 1000000000 : Nat) : Int) := by
  rw [Int.tmod_eq_emod_of_nonneg (by omega)]; omega
theorem tdiv_nat (n : Nat) : ((n : Int)).tdiv 1000000000 = ((n / 1000000000 : Nat) : Int) := by
  rw [Int.tdiv_eq_ediv_of_nonneg (by omega)]; omega

theorem limbs_len_u64 {n : Nat} (hn : n ≤ 18446744073709551615) : (limbs n).length ≤ 3 := limbs_length_le n 3 (by omega)

set_option maxRecDepth 100000 in
set_option maxHeartbeats 1000000 in
theorem limbsOf_ok (n : Nat) (hn : n ≤ 18446744073709551615) (e : Env) (σ : St) (K : KT) (h : K (ints (limbs n)) e σ) : ACall Tryz.prog 147 [.lit (.int .u64 n)] e σ K := by
  refine ACall.pureW Tryz.func147 rfl Tryz.ntmps147 Tryz.results147 rfl rfl rfl ?_
  simp -implicitDefEqProofs (disch := (first | omega | (simp only [go_sem] <;> omega) | fail)) only [go_sem, Nat.reduceEqDiff, ↓reduceIte, Nat.reduceAdd, Nat.reduceLT, Nat.reduceLeDiff, Nat.reduceSub, Nat.reduceMul, Int.reduceLT, Int.reduceLE, Int.reduceToNat, Int.reduceNeg, Int.reduceEq, Int.reduceAdd, Int.reduceSub, Int.reduceMul, reduceCtorEq]
  refine Sat.loopW (fun (t : Nat) e' σ' => e' 0 = .lit (.int .u64 t) ∧ t ≤ n ∧ ((e' 3 = .lit (.slice none 0 0) ∧ t = n ∧ σ' = σ) ∨ ∃ ρ l, Old σ ρ ∧ σ.n ≤ ρ.n ∧ e' 3 = .os ρ.n 0 l.length ∧ σ' = ρ.new (bl intRow 1 l) ∧ l ++ limbs t = limbs n)) (fun t => t) n rfl ?_ ?_
  · exact ⟨rfl, Nat.le_refl _, .inl ⟨rfl, rfl, rfl⟩⟩
  · rintro t e1 σ1 ⟨h0, ht, hcase⟩
    have hl3 := limbs_len_u64 hn
    by_cases hpos : 0 < t
    · have hpos' : (0 : Int) < t := by omega
      have hls := limbs_pos (n := t) (by omega)
      rcases hcase with ⟨h3, rfl, rfl⟩ | ⟨ρ, l, hO, hρ, h3, rfl, hl⟩
      · simp -implicitDefEqProofs (disch := (first | omega | (simp only [go_sem] <;> omega) | fail)) only [go_sem, Nat.reduceEqDiff, ↓reduceIte, Nat.reduceAdd, Nat.reduceLT, Nat.reduceLeDiff, Nat.reduceSub, Nat.reduceMul, Int.reduceLT, Int.reduceLE, Int.reduceToNat, Int.reduceNeg, Int.reduceEq, Int.reduceAdd, Int.reduceSub, Int.reduceMul, reduceCtorEq, h0, h3, hpos', tmod_nat, tdiv_nat, wrap_i64, wrap_u64]
        exact ⟨t / 1000000000, by omega, rfl, by omega, .inr ⟨_, [((t % 1000000000 : Nat) : Int)], (Old.refl _).new _, Nat.le_succ _, rfl, rfl, hls.symm⟩⟩
      · have hlen : l.length ≤ 3 := by rw [← hl] at hl3; simp at hl3; omega
        simp -implicitDefEqProofs (disch := (first | omega | (simp only [go_sem] <;> omega) | fail)) only [go_sem, Nat.reduceEqDiff, ↓reduceIte, Nat.reduceAdd, Nat.reduceLT, Nat.reduceLeDiff, Nat.reduceSub, Nat.reduceMul, Int.reduceLT, Int.reduceLE, Int.reduceToNat, Int.reduceNeg, Int.reduceEq, Int.reduceAdd, Int.reduceSub, Int.reduceMul, reduceCtorEq, h0, h3, hpos', tmod_nat, tdiv_nat, wrap_i64, wrap_u64]
        refine ⟨by omega, t / 1000000000, by omega, rfl, by omega, .inr ⟨_, l ++ [((t % 1000000000 : Nat) : Int)], ((hO.new _).new _).put hρ _, ?_, by simp; rfl, rfl, ?_⟩⟩
        · simp only [St_new_n, St_put_n]; omega
        · rw [← hl, hls]; simp
    · have hpos' : ¬ (0 : Int) < t := by omega
      rcases hcase with ⟨h3, rfl, rfl⟩ | ⟨ρ, l, hO, hρ, h3, rfl, hl⟩
      · simp -implicitDefEqProofs (disch := (first | omega | (simp only [go_sem] <;> omega) | fail)) only [go_sem, Nat.reduceEqDiff, ↓reduceIte, Nat.reduceAdd, Nat.reduceLT, Nat.reduceLeDiff, Nat.reduceSub, Nat.reduceMul, Int.reduceLT, Int.reduceLE, Int.reduceToNat, Int.reduceNeg, Int.reduceEq, Int.reduceAdd, Int.reduceSub, Int.reduceMul, reduceCtorEq, h0, h3, hpos']
        have : t = 0 := by omega
        subst this
        rw [limbs_zero] at h
        exact h
      · simp -implicitDefEqProofs (disch := (first | omega | (simp only [go_sem] <;> omega) | fail)) only [go_sem, Nat.reduceEqDiff, ↓reduceIte, Nat.reduceAdd, Nat.reduceLT, Nat.reduceLeDiff, Nat.reduceSub, Nat.reduceMul, Int.reduceLT, Int.reduceLE, Int.reduceToNat, Int.reduceNeg, Int.reduceEq, Int.reduceAdd, Int.reduceSub, Int.reduceMul, reduceCtorEq, h0, h3, hpos', hO]
        have : t = 0 := by omega
        subst this
        rw [limbs_zero, List.append_nil] at hl
        subst hl
        exact h

theorem mixed : Tryz.prog.follows .mixedOrders = true := by kernel_rfl

set_option maxRecDepth 100000 in
set_option maxHeartbeats 1000000 in
theorem compare_ok (x y : List Int) (hx : Canon x) (hy : Canon y) (hlx : x.length ≤ 1000000) (hly : y.length ≤ 1000000) (e : Env) (σ : St) (K : KT) (h : K (.lit (.int .i64 (cmpZ (valL x) (valL y)))) e σ) : ACall Tryz.prog 166 [ints x, ints y] e σ K := by
  refine ACall.pureW Tryz.func166 rfl Tryz.ntmps166 Tryz.results166 rfl rfl rfl ?_
  by_cases hlen : x.length = y.length
  · have hlen' : ¬ ((¬ (x.length : Int) = y.length)) := by omega
    simp -implicitDefEqProofs (disch := (first | omega | (simp only [go_sem] <;> omega) | fail)) only [go_sem, Nat.reduceEqDiff, ↓reduceIte, Nat.reduceAdd, Nat.reduceLT, Nat.reduceLeDiff, Nat.reduceSub, Nat.reduceMul, Int.reduceLT, Int.reduceLE, Int.reduceToNat, Int.reduceNeg, Int.reduceEq, Int.reduceAdd, Int.reduceSub, Int.reduceMul, reduceCtorEq, wrap_i64, hlen, hlen']
    refine Sat.loopW (fun (t : Nat) e' σ' => e' 0 = sl intRow x ∧ e' 1 = sl intRow y ∧ e' 5 = .lit (.int .i64 ((t : Int) - 1)) ∧ t ≤ x.length ∧ x.drop t = y.drop t ∧ σ' = σ) (fun t => t) x.length rfl ?_ ?_
    · refine ⟨rfl, rfl, ?_, Nat.le_refl _, ?_, rfl⟩
      · rw [hlen]; rfl
      · rw [List.drop_of_length_le (Nat.le_refl _), List.drop_of_length_le (by omega)]
    · rintro t e1 σ1 ⟨h0, h1, h5, ht, hd, rfl⟩
      by_cases hpos : 0 < t
      · have hpos' : (0 : Int) ≤ (t : Int) - 1 := by omega
        have hn := toNat_pred hpos
        obtain ⟨t, rfl⟩ : ∃ t', t = t' + 1 := ⟨t - 1, by omega⟩
        simp -implicitDefEqProofs (disch := (first | omega | (simp only [go_sem] <;> omega) | fail)) only [go_sem, Nat.reduceEqDiff, ↓reduceIte, Nat.reduceAdd, Nat.reduceLT, Nat.reduceLeDiff, Nat.reduceSub, Nat.reduceMul, Int.reduceLT, Int.reduceLE, Int.reduceToNat, Int.reduceNeg, Int.reduceEq, Int.reduceAdd, Int.reduceSub, Int.reduceMul, reduceCtorEq, h0, h1, h5, hpos']
        refine Sat.drawn0 [] mixed (by kernel_rfl) ?_
        by_cases hlt : x.getD t 0 < y.getD t 0
        · simp -implicitDefEqProofs (disch := (first | omega | (simp only [go_sem] <;> omega) | fail)) only [go_sem, Nat.reduceEqDiff, ↓reduceIte, Nat.reduceAdd, Nat.reduceLT, Nat.reduceLeDiff, Nat.reduceSub, Nat.reduceMul, Int.reduceLT, Int.reduceLE, Int.reduceToNat, Int.reduceNeg, Int.reduceEq, Int.reduceAdd, Int.reduceSub, Int.reduceMul, reduceCtorEq, h0, h1, h5, hn, getD_int, hlt, Nat.add_sub_cancel]
          rw [cmpZ_lt (valL_lt_of_digit hx.1 hy.1 hlen (by omega) hd hlt)] at h
          exact h
        · simp -implicitDefEqProofs (disch := (first | omega | (simp only [go_sem] <;> omega) | fail)) only [go_sem, Nat.reduceEqDiff, ↓reduceIte, Nat.reduceAdd, Nat.reduceLT, Nat.reduceLeDiff, Nat.reduceSub, Nat.reduceMul, Int.reduceLT, Int.reduceLE, Int.reduceToNat, Int.reduceNeg, Int.reduceEq, Int.reduceAdd, Int.reduceSub, Int.reduceMul, reduceCtorEq, h0, h1, h5, hn, getD_int, hlt, Nat.add_sub_cancel]
          refine Sat.drawn0 [] mixed (by kernel_rfl) ?_
          by_cases hgt : y.getD t 0 < x.getD t 0
          · simp -implicitDefEqProofs (disch := (first | omega | (simp only [go_sem] <;> omega) | fail)) only [go_sem, Nat.reduceEqDiff, ↓reduceIte, Nat.reduceAdd, Nat.reduceLT, Nat.reduceLeDiff, Nat.reduceSub, Nat.reduceMul, Int.reduceLT, Int.reduceLE, Int.reduceToNat, Int.reduceNeg, Int.reduceEq, Int.reduceAdd, Int.reduceSub, Int.reduceMul, reduceCtorEq, h0, h1, h5, hn, getD_int, hgt, Nat.add_sub_cancel]
            rw [cmpZ_gt (valL_lt_of_digit hy.1 hx.1 hlen.symm (by omega) hd.symm hgt)] at h
            exact h
          · simp -implicitDefEqProofs (disch := (first | omega | (simp only [go_sem] <;> omega) | fail)) only [go_sem, Nat.reduceEqDiff, ↓reduceIte, Nat.reduceAdd, Nat.reduceLT, Nat.reduceLeDiff, Nat.reduceSub, Nat.reduceMul, Int.reduceLT, Int.reduceLE, Int.reduceToNat, Int.reduceNeg, Int.reduceEq, Int.reduceAdd, Int.reduceSub, Int.reduceMul, reduceCtorEq, h0, h1, h5, hn, getD_int, hgt, Nat.add_sub_cancel, wrap_i64]
            refine ⟨t, by omega, ?_, by omega, drop_eq_step hlen (by omega) hd (by omega)⟩
            congr 2
            omega
      · have hpos' : ¬ (0 : Int) ≤ (t : Int) - 1 := by omega
        have : t = 0 := by omega
        subst this
        simp -implicitDefEqProofs (disch := (first | omega | (simp only [go_sem] <;> omega) | fail)) only [go_sem, Nat.reduceEqDiff, ↓reduceIte, Nat.reduceAdd, Nat.reduceLT, Nat.reduceLeDiff, Nat.reduceSub, Nat.reduceMul, Int.reduceLT, Int.reduceLE, Int.reduceToNat, Int.reduceNeg, Int.reduceEq, Int.reduceAdd, Int.reduceSub, Int.reduceMul, reduceCtorEq, h0, h1, h5, hpos']
        simp only [List.drop_zero] at hd
        rw [hd, cmpZ_eq rfl] at h
        exact h
  · have hlen' : ¬ ((x.length : Int) = y.length) := by omega
    by_cases hlt : x.length < y.length
    · have hlt' : (x.length : Int) < y.length := by omega
      simp -implicitDefEqProofs (disch := (first | omega | (simp only [go_sem] <;> omega) | fail)) only [go_sem, Nat.reduceEqDiff, ↓reduceIte, Nat.reduceAdd, Nat.reduceLT, Nat.reduceLeDiff, Nat.reduceSub, Nat.reduceMul, Int.reduceLT, Int.reduceLE, Int.reduceToNat, Int.reduceNeg, Int.reduceEq, Int.reduceAdd, Int.reduceSub, Int.reduceMul, reduceCtorEq, hlen', hlt']
      rw [cmpZ_lt (valL_lt_of_len hx.1 hy hlt)] at h
      exact h
    · have hlt' : ¬ (x.length : Int) < y.length := by omega
      simp -implicitDefEqProofs (disch := (first | omega | (simp only [go_sem] <;> omega) | fail)) only [go_sem, Nat.reduceEqDiff, ↓reduceIte, Nat.reduceAdd, Nat.reduceLT, Nat.reduceLeDiff, Nat.reduceSub, Nat.reduceMul, Int.reduceLT, Int.reduceLE, Int.reduceToNat, Int.reduceNeg, Int.reduceEq, Int.reduceAdd, Int.reduceSub, Int.reduceMul, reduceCtorEq, hlen', hlt']
      rw [cmpZ_gt (valL_lt_of_len hy.1 hx (by omega))] at h
      exact h
end Go.Proofs.Qqz
