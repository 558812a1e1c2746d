/- Contracts: the reference's natural numbers. -/
import Derived.Test.YtanoekhdoelkbaaGreatImi
set_option linter.unusedSimpArgs false
set_option linter.unusedVariables false
namespace Go.Proofs.Qqz
open Go

set_option maxRecDepth 100000 in
set_option maxHeartbeats 1000000 in
theorem strim_ok (l : List Int) (hl : l.length ≤ 1000000000) (e : Env) (σ : St) (K : KT) (h : K (ints (trimL l)) e σ) : ACall Tryz.prog 161 [ints l] e σ K := by
  refine ACall.pureW Tryz.func161 rfl Tryz.ntmps161 Tryz.results161 rfl rfl rfl ?_
  simp -implicitDefEqProofs (disch := (first | omega | (simp only [go_sem] <;> omega) | fail)) only [go_sem, simprocAttr]
  refine Sat.loopW (fun (k : Nat) e' σ' => e' 0 = sl intRow l ∧ e' 3 = .lit (.int .i64 (k : Nat)) ∧ k ≤ l.length ∧ trimL (l.take k) = trimL l ∧ σ' = σ) (fun k => k) l.length rfl ?_ ?_
  · exact ⟨rfl, rfl, Nat.le_refl _, by rw [List.take_of_length_le (Nat.le_refl _)], rfl⟩
  · rintro k e1 σ1 ⟨h0, h3, hm, htr, rfl⟩
    have hlk : (l.take k).length = k := by simp; omega
    by_cases hpos : 0 < k
    · have hpos' : (0 : Int) < k := by omega
      have hn := toNat_pred hpos
      have hget : (l.take k).getD (k - 1) 0 = l.getD (k - 1) 0 := by
        simp only [List.getD, List.getElem?_take]; rw [if_pos (by omega)]
      by_cases hx : l.getD (k - 1) 0 = 0
      · simp -implicitDefEqProofs (disch := (first | omega | (simp only [go_sem] <;> omega) | fail)) only [go_sem, simprocAttr, h0, h3, wrap_i64, hpos', getD_int, hn, hx]
        refine ⟨k - 1, by omega, ?_, by omega, ?_⟩
        · congr 2; omega
        · rw [← htr, trimL_step (m := l.take k) (by omega) (by rw [hlk, hget]; exact hx), List.dropLast_eq_take, hlk, List.take_take]
          congr 2; omega
      · simp -implicitDefEqProofs (disch := (first | omega | (simp only [go_sem] <;> omega) | fail)) only [go_sem, simprocAttr, h0, h3, wrap_i64, hpos', getD_int, hn, hx]
        rw [← htr, trimL_stop (m := l.take k) (by omega) (by rw [hlk, hget]; exact hx)] at h
        exact h
    · have hpos' : ¬ (0 : Int) < k := by omega
      simp -implicitDefEqProofs (disch := (first | omega | (simp only [go_sem] <;> omega) | fail)) only [go_sem, simprocAttr, h0, h3, wrap_i64, hpos', getD_int]
      rw [← htr, trimL_nil (m := l.take k) (by omega)] at h
      exact h

theorem trim_limbs (n : Nat) : trimL (limbs n) = limbs n := by rw [trimL_eq (Dig_limbs n), valL_limbs]; simp

set_option maxRecDepth 100000 in
set_option maxHeartbeats 1000000 in
theorem scap_ok (n : Nat) (hn : (limbs n).length ≤ 60) (e : Env) (σ : St) (K : KT) (h : K (ints (limbs n)) e σ) : ACall Tryz.prog 157 [ints (limbs n)] e σ K := by
  refine ACall.pureW Tryz.func157 rfl Tryz.ntmps157 Tryz.results157 rfl rfl rfl ?_
  simp -implicitDefEqProofs (disch := (first | omega | (simp only [go_sem] <;> omega) | fail)) only [go_sem, simprocAttr]
  refine callF.plain (strim_ok _ (by omega) _ _ _ ?_)
  rw [trim_limbs]
  have hn' : ¬ (60 : Int) < (limbs n).length := by omega
  simp -implicitDefEqProofs (disch := (first | omega | (simp only [go_sem] <;> omega) | fail)) only [go_sem, simprocAttr, hn']
  exact h

set_option maxRecDepth 100000 in
set_option maxHeartbeats 1000000 in
theorem scmp_ok (x y : List Int) (hx : Canon x) (hy : Canon y) (hlx : x.length ≤ 1000000) (hly : y.length ≤ 1000000) (e : Env) (σ : St) (K : KT) (h : K (.lit (.int .i64 (cmpZ (valL x) (valL y)))) e σ) : ACall Tryz.prog 159 [ints x, ints y] e σ K := by
  refine ACall.pureW Tryz.func159 rfl Tryz.ntmps159 Tryz.results159 rfl rfl rfl ?_
  by_cases hlen : x.length = y.length
  · have hlen' : ¬ ((¬ (x.length : Int) = y.length)) := by omega
    simp -implicitDefEqProofs (disch := (first | omega | (simp only [go_sem] <;> omega) | fail)) only [go_sem, simprocAttr, wrap_i64, hlen, hlen']
    refine Sat.loopW (fun (t : Nat) e' σ' => e' 0 = sl intRow x ∧ e' 1 = sl intRow y ∧ e' 5 = .lit (.int .i64 ((t : Int) - 1)) ∧ t ≤ x.length ∧ x.drop t = y.drop t ∧ σ' = σ) (fun t => t) x.length rfl ?_ ?_
    · refine ⟨rfl, rfl, ?_, Nat.le_refl _, ?_, rfl⟩
      · rw [hlen]; rfl
      · rw [List.drop_of_length_le (Nat.le_refl _), List.drop_of_length_le (by omega)]
    · rintro t e1 σ1 ⟨h0, h1, h5, ht, hd, rfl⟩
      by_cases hpos : 0 < t
      · have hpos' : (0 : Int) ≤ (t : Int) - 1 := by omega
        have hn := toNat_pred hpos
        obtain ⟨t, rfl⟩ : ∃ t', t = t' + 1 := ⟨t - 1, by omega⟩
        simp -implicitDefEqProofs (disch := (first | omega | (simp only [go_sem] <;> omega) | fail)) only [go_sem, simprocAttr, h0, h1, h5, hpos']
        refine Sat.drawn0 [] mixed (by kernel_rfl) ?_
        by_cases hlt : x.getD t 0 < y.getD t 0
        · simp -implicitDefEqProofs (disch := (first | omega | (simp only [go_sem] <;> omega) | fail)) only [go_sem, simprocAttr, h0, h1, h5, hn, getD_int, hlt, Nat.add_sub_cancel]
          rw [cmpZ_lt (valL_lt_of_digit hx.1 hy.1 hlen (by omega) hd hlt)] at h
          exact h
        · simp -implicitDefEqProofs (disch := (first | omega | (simp only [go_sem] <;> omega) | fail)) only [go_sem, simprocAttr, h0, h1, h5, hn, getD_int, hlt, Nat.add_sub_cancel]
          refine Sat.drawn0 [] mixed (by kernel_rfl) ?_
          by_cases hgt : y.getD t 0 < x.getD t 0
          · simp -implicitDefEqProofs (disch := (first | omega | (simp only [go_sem] <;> omega) | fail)) only [go_sem, simprocAttr, h0, h1, h5, hn, getD_int, hgt, Nat.add_sub_cancel]
            rw [cmpZ_gt (valL_lt_of_digit hy.1 hx.1 hlen.symm (by omega) hd.symm hgt)] at h
            exact h
          · simp -implicitDefEqProofs (disch := (first | omega | (simp only [go_sem] <;> omega) | fail)) only [go_sem, simprocAttr, h0, h1, h5, hn, getD_int, hgt, Nat.add_sub_cancel, wrap_i64]
            refine ⟨t, by omega, ?_, by omega, drop_eq_step hlen (by omega) hd (by omega)⟩
            congr 2
            omega
      · have hpos' : ¬ (0 : Int) ≤ (t : Int) - 1 := by omega
        have : t = 0 := by omega
        subst this
        simp -implicitDefEqProofs (disch := (first | omega | (simp only [go_sem] <;> omega) | fail)) only [go_sem, simprocAttr, h0, h1, h5, hpos']
        simp only [List.drop_zero] at hd
        rw [hd, cmpZ_eq rfl] at h
        exact h
  · have hlen' : ¬ ((x.length : Int) = y.length) := by omega
    by_cases hlt : x.length < y.length
    · have hlt' : (x.length : Int) < y.length := by omega
      simp -implicitDefEqProofs (disch := (first | omega | (simp only [go_sem] <;> omega) | fail)) only [go_sem, simprocAttr, hlen', hlt']
      rw [cmpZ_lt (valL_lt_of_len hx.1 hy hlt)] at h
      exact h
    · have hlt' : ¬ (x.length : Int) < y.length := by omega
      simp -implicitDefEqProofs (disch := (first | omega | (simp only [go_sem] <;> omega) | fail)) only [go_sem, simprocAttr, hlen', hlt']
      rw [cmpZ_gt (valL_lt_of_len hy.1 hx (by omega))] at h
      exact h
set_option maxRecDepth 100000 in
set_option maxHeartbeats 1000000 in
theorem smul_long (x y : List Int) (hx : Dig x) (hy : Dig y) (hlx : x.length ≤ 1000000) (hly : y.length ≤ 1000000) (hx0 : ¬ x.length = 0) (hy0 : ¬ y.length = 0) (e : Env) (σ : St) (K : KT)
    (h : K (ints (limbs (valL x * valL y).toNat)) e σ) : ACall Tryz.prog 134 [ints x, ints y] e σ K := by
  refine ACall.pureW Tryz.func134 rfl Tryz.ntmps134 Tryz.results134 rfl rfl rfl ?_
  have hx0' : ¬ (x.length : Int) = 0 := by omega
  have hy0' : ¬ (y.length : Int) = 0 := by omega
  simp -implicitDefEqProofs (disch := (first | omega | (simp only [go_sem] <;> omega) | fail)) only [go_sem, simprocAttr, hx0', hy0', wrap_i64]
  refine Sat.loopW (fun (t : Nat) e' σ' => ∃ i L, t = x.length - i ∧ i ≤ x.length ∧ e' 0 = sl intRow x ∧ e' 1 = sl intRow y ∧ e' 5 = .os σ.n 0 (x.length + y.length) ∧ e' 26 = sl intRow x ∧ e' 27 = .lit (.int .i64 x.length) ∧ e' 28 = .lit (.int .i64 (i : Nat)) ∧
    σ'.n = σ.n + 1 ∧ σ'.h σ.n = bl intRow 1 L ∧ Old σ σ' ∧ L.length = x.length + y.length ∧ Dig L ∧ valL L = valL (x.take i) * valL y ∧ ∀ k, i + y.length ≤ k → L.getD k 0 = 0) (fun t => t) x.length rfl ?_ ?_
  · have e1 : ((x.length : Int) + y.length).toNat = x.length + y.length := by omega
    simp -implicitDefEqProofs (disch := (first | omega | (simp only [go_sem] <;> omega) | fail)) only [go_sem, simprocAttr, e1]
    refine ⟨0, List.replicate (x.length + y.length) 0, by omega, by omega, rfl, rfl, by simp, ?_, ?_, ?_⟩
    · intro z hz; rw [List.mem_replicate] at hz; omega
    · have : ∀ n, valL (List.replicate n 0) = 0 := by
        intro n; induction n with
        | zero => rfl
        | succ n ih => rw [List.replicate_succ, valL, ih]; rfl
      rw [this]; simp [valL]
    · intro k _
      simp only [List.getD, List.getElem?_replicate]; split <;> rfl
  · rintro t e1 σ1 ⟨i, L, rfl, hi, h0, h1, h5, h26, h27, h28, hn, hB, hO, hL, hd, hv, hz⟩
    have hvx := valL_take_succ x i
    by_cases hlt : i < x.length
    · have hlt' : (i : Int) < x.length := by omega
      have hxi := hx.getD i
      simp -implicitDefEqProofs (disch := (first | omega | (simp only [go_sem] <;> omega) | fail)) only [go_sem, simprocAttr, h0, h1, h5, h26, h27, h28, hlt', hn, hB, hO, wrap_i64, getD_int]
      refine Sat.loopW (fun (t : Nat) e' σ' => ∃ j L c, t = y.length - j ∧ j ≤ y.length ∧ e' 0 = sl intRow x ∧ e' 1 = sl intRow y ∧ e' 5 = .os σ.n 0 (x.length + y.length) ∧ e' 26 = sl intRow x ∧ e' 27 = .lit (.int .i64 x.length) ∧ e' 28 = .lit (.int .i64 (i : Nat)) ∧
        e' 6 = .lit (.int .i64 (i : Nat)) ∧ e' 7 = .lit (.int .i64 (x.getD i 0)) ∧ e' 8 = .lit (.int .i64 c) ∧ e' 33 = sl intRow y ∧ e' 34 = .lit (.int .i64 y.length) ∧ e' 35 = .lit (.int .i64 (j : Nat)) ∧
        σ'.n = σ.n + 1 ∧ σ'.h σ.n = bl intRow 1 L ∧ Old σ σ' ∧ L.length = x.length + y.length ∧ Dig L ∧ 0 ≤ c ∧ c < 1000000000 ∧ valL L + 1000000000 ^ (i + j) * c = valL (x.take i) * valL y + x.getD i 0 * (1000000000 ^ i * valL (y.take j)) ∧ ∀ k, i + y.length ≤ k → L.getD k 0 = 0) (fun t => t) y.length rfl ?_ ?_
      · simp -implicitDefEqProofs (disch := (first | omega | (simp only [go_sem] <;> omega) | fail)) only [go_sem, simprocAttr, h0, h1, h5, h26, h27, h28]
        exact ⟨0, L, 0, by omega, by omega, rfl, rfl, hn, hB, hO, hL, hd, by omega, by omega, by simp [valL, hv], hz⟩
      · clear hz hv hd hL hO hB hn h28 h27 h26 h5 h1 h0
        rintro t e2 σ2 ⟨j, L, c, rfl, hj, h0, h1, h5, h26, h27, h28, h6, h7, h8, h33, h34, h35, hn, hB, hO, hL, hd, hc0, hc1, hv, hz⟩
        by_cases hjt : j < y.length
        · have hjt' : (j : Int) < y.length := by omega
          have hyj := hy.getD j
          have hLij := hd.getD (i + j)
          have hm := mulDig hxi hyj
          have hij : ((i : Int) + (j : Int)).toNat = i + j := by omega
          simp -implicitDefEqProofs (disch := (first | omega | (simp only [go_sem] <;> omega) | fail)) only [go_sem, simprocAttr, h0, h1, h5, h26, h27, h28, h6, h7, h8, h33, h34, h35, hjt', hn, hB, hO, wrap_i64, getD_int, hij, tmod_pos, tdiv_pos]
          refine ⟨y.length - (j + 1), by omega, j + 1, L.set (i + j) ((L.getD (i + j) 0 + x.getD i 0 * y.getD j 0 + c) % 1000000000), (L.getD (i + j) 0 + x.getD i 0 * y.getD j 0 + c) / 1000000000, rfl, by omega, rfl, rfl, rfl, by simpa using hL, hd.set _ (by omega) (by omega), by omega, by omega, ?_, fun k hk => ?_⟩
          · rw [valL_set_at _ _ _ (by omega), valL_take_succ y j, ← Nat.add_assoc, Int.pow_succ]
            exact mul_step hv (by omega) (Int.pow_add _ _ _)
          · rw [getD_set_ne' (by omega)]; exact hz k hk
        · have hjt' : ¬ (j : Int) < y.length := by omega
          have hje : j = y.length := by omega
          subst hje
          have hij : ((i : Int) + (y.length : Int)).toNat = i + y.length := by omega
          have hlast := hz (i + y.length) (Nat.le_refl _)
          simp -implicitDefEqProofs (disch := (first | omega | (simp only [go_sem] <;> omega) | fail)) only [go_sem, simprocAttr, h0, h1, h5, h26, h27, h28, h6, h7, h8, h33, h34, h35, hjt', hn, hB, hO, wrap_i64, getD_int, hij]
          refine ⟨x.length - (i + 1), by omega, i + 1, L.set (i + y.length) c, rfl, by omega, rfl, rfl, by simpa using hL, hd.set _ hc0 hc1, ?_, fun k hk => ?_⟩
          · rw [valL_set_at _ _ _ (by omega), hvx, hlast]
            rw [List.take_of_length_le (Nat.le_refl y.length)] at hv
            exact mul_row hv
          · rw [getD_set_ne' (by omega)]; exact hz k (by omega)
    · have hlt' : ¬ (i : Int) < x.length := by omega
      have hie : i = x.length := by omega
      subst hie
      simp -implicitDefEqProofs (disch := (first | omega | (simp only [go_sem] <;> omega) | fail)) only [go_sem, simprocAttr, h0, h1, h5, h26, h27, h28, hlt', hn, hB, hO, wrap_i64]
      refine callF.fz [σ.n] ?_
      rw [List.take_of_length_le (Nat.le_refl x.length)] at hv
      have hLt : L.take (x.length + y.length) = L := List.take_of_length_le (by omega)
      refine ACall.eq_args (l' := [ints L]) (by simp -implicitDefEqProofs (disch := (first | omega | (simp only [go_sem] <;> omega) | fail)) only [go_sem, simprocAttr, hB, hLt]) ?_
      refine strim_ok L (by omega) _ _ _ ?_
      have hle : trimL L = limbs (valL x * valL y).toNat := by rw [trimL_eq hd, hv]
      rw [hle]
      simp -implicitDefEqProofs (disch := (first | omega | (simp only [go_sem] <;> omega) | fail)) only [go_sem, simprocAttr, hB, hn, hO]
      exact h

set_option maxRecDepth 100000 in
set_option maxHeartbeats 1000000 in
theorem smul_ok (x y : List Int) (hx : Dig x) (hy : Dig y) (hlx : x.length ≤ 1000000) (hly : y.length ≤ 1000000) (e : Env) (σ : St) (K : KT) (h : K (ints (limbs (valL x * valL y).toNat)) e σ) : ACall Tryz.prog 134 [ints x, ints y] e σ K := by
  by_cases hx0 : x.length = 0
  · refine ACall.pureW Tryz.func134 rfl Tryz.ntmps134 Tryz.results134 rfl rfl rfl ?_
    have hx0' : (x.length : Int) = 0 := by omega
    have : x = [] := List.eq_nil_of_length_eq_zero hx0
    simp -implicitDefEqProofs (disch := (first | omega | (simp only [go_sem] <;> omega) | fail)) only [go_sem, simprocAttr, hx0']
    subst this
    simp only [valL, Int.zero_mul, Int.toNat_zero, limbs_zero] at h
    exact h
  have hx0' : ¬ (x.length : Int) = 0 := by omega
  by_cases hy0 : y.length = 0
  · refine ACall.pureW Tryz.func134 rfl Tryz.ntmps134 Tryz.results134 rfl rfl rfl ?_
    have hy0' : (y.length : Int) = 0 := by omega
    have : y = [] := List.eq_nil_of_length_eq_zero hy0
    simp -implicitDefEqProofs (disch := (first | omega | (simp only [go_sem] <;> omega) | fail)) only [go_sem, simprocAttr, hx0', hy0']
    subst this
    simp only [valL, Int.mul_zero, Int.toNat_zero, limbs_zero] at h
    exact h
  exact smul_long x y hx hy hlx hly hx0 hy0 e σ K h

set_option maxRecDepth 100000 in
set_option maxHeartbeats 1000000 in
theorem ssmall_ok (x : List Int) (b : Int) (hx : Dig x) (hb : 0 < b) (hb2 : b ≤ 1000000000) (hlx : x.length ≤ 1000000) (e : Env) (σ : St) (K : KT)
    (h : K (.tup [ints (limbs (valL x / b).toNat), .lit (.int .i64 (valL x % b))]) e σ) : ACall Tryz.prog 162 [ints x, .lit (.int .i64 b)] e σ K := by
  refine ACall.pureW Tryz.func162 rfl Tryz.ntmps162 Tryz.results162 rfl rfl rfl ?_
  simp -implicitDefEqProofs (disch := (first | omega | (simp only [go_sem] <;> omega) | fail)) only [go_sem, simprocAttr, wrap_i64]
  refine Sat.loopW (fun (t : Nat) e' σ' => ∃ L r, e' 0 = sl intRow x ∧ e' 1 = .lit (.int .i64 b) ∧ e' 6 = .os σ.n 0 x.length ∧ e' 7 = .lit (.int .i64 r) ∧ e' 8 = .lit (.int .i64 ((t : Int) - 1)) ∧ t ≤ x.length ∧
    σ'.n = σ.n + 1 ∧ σ'.h σ.n = bl intRow 1 L ∧ Old σ σ' ∧ L.length = x.length ∧ Dig (L.drop t) ∧ 0 ≤ r ∧ r < b ∧ valL (x.drop t) = b * valL (L.drop t) + r) (fun t => t) x.length rfl ?_ ?_
  · simp -implicitDefEqProofs (disch := (first | omega | (simp only [go_sem] <;> omega) | fail)) only [go_sem, simprocAttr]
    refine ⟨List.replicate x.length 0, 0, rfl, by omega, rfl, by simp, ?_, by omega, hb, ?_⟩
    · rw [List.drop_of_length_le (by simp)]; exact Dig.nil
    · rw [List.drop_of_length_le (by simp), List.drop_of_length_le (by simp)]; simp [valL]
  · rintro t e1 σ1 ⟨L, r, h0, h1, h6, h7, h8, ht, hn, hB, hO, hL, hd, hr0, hr1, hv⟩
    by_cases hpos : 0 < t
    · obtain ⟨t, rfl⟩ : ∃ t', t = t' + 1 := ⟨t - 1, by omega⟩
      have hpos' : (0 : Int) ≤ ((t + 1 : Nat) : Int) - 1 := by omega
      have hxt := hx.getD t
      have hk : (((t + 1 : Nat) : Int) - 1).toNat = t := by omega
      obtain ⟨q0, q1, q2, q3, q4⟩ := div_step hb ⟨hr0, hr1⟩ hxt
      simp -implicitDefEqProofs (disch := (first | omega | (simp only [go_sem] <;> omega) | fail)) only [go_sem, simprocAttr, h0, h1, h6, h7, h8, hpos', hk, hn, hB, hO, wrap_i64, getD_int, tdiv_pos', tmod_pos']
      refine ⟨t, by omega, L.set t ((r * 1000000000 + x.getD t 0) / b), _, rfl, ?_, by omega, rfl, by simpa using hL, ?_, q2, q3, ?_⟩
      · congr 2; omega
      · rw [drop_set (by omega), Dig.cons]; exact ⟨⟨q0, q1⟩, hd⟩
      · rw [drop_set (by omega), valL_drop (by omega), hv, valL]
        generalize (r * 1000000000 + x.getD t 0) / b = q at *
        generalize (r * 1000000000 + x.getD t 0) % b = s at *
        grind
    · have hpos' : ¬ (0 : Int) ≤ (t : Int) - 1 := by omega
      have : t = 0 := by omega
      subst this
      simp only [List.drop_zero] at hd hv
      have hq : valL x / b = valL L ∧ valL x % b = r := by
        rw [Int.ediv_emod_unique hb]
        exact ⟨by rw [hv]; omega, hr0, hr1⟩
      simp -implicitDefEqProofs (disch := (first | omega | (simp only [go_sem] <;> omega) | fail)) only [go_sem, simprocAttr, h0, h1, h6, h7, h8, hpos', hn, hB, hO, wrap_i64]
      refine callF.fz [σ.n] ?_
      have hLt : L.take x.length = L := List.take_of_length_le (by omega)
      have hnn := valL_nonneg hd
      rw [hq.1, hq.2] at h
      refine ACall.eq_args (l' := [ints L]) (by simp -implicitDefEqProofs (disch := (first | omega | (simp only [go_sem] <;> omega) | fail)) only [go_sem, simprocAttr, hB, hLt]) ?_
      refine strim_ok L (by omega) _ _ _ ?_
      rw [trimL_eq hd]
      simp -implicitDefEqProofs (disch := (first | omega | (simp only [go_sem] <;> omega) | fail)) only [go_sem, simprocAttr, h7, hB, hn, hO]
      exact h

set_option maxRecDepth 100000 in
set_option maxHeartbeats 1000000 in
theorem snatOf_ok (n : Nat) (hn : n ≤ 9223372036854775807) (e : Env) (σ : St) (K : KT) (h : K (ints (limbs n)) e σ) : ACall Tryz.prog 131 [.lit (.int .i64 n)] e σ K := by
  refine ACall.pureW Tryz.func131 rfl Tryz.ntmps131 Tryz.results131 rfl rfl rfl ?_
  simp -implicitDefEqProofs (disch := (first | omega | (simp only [go_sem] <;> omega) | fail)) only [go_sem, simprocAttr]
  refine Sat.loopW (fun (t : Nat) e' σ' => ∃ k l, e' 0 = .lit (.int .i64 t) ∧ t ≤ n ∧ e' 3 = .os k 0 l.length ∧ σ.n ≤ k ∧ k < σ'.n ∧ σ'.h k = bl intRow 1 l ∧ Old σ σ' ∧ l ++ limbs t = limbs n) (fun t => t) n rfl ?_ ?_
  · simp -implicitDefEqProofs (disch := (first | omega | (simp only [go_sem] <;> omega) | fail)) only [go_sem, simprocAttr]
    exact ⟨σ.n, [], Nat.le_refl _, rfl, by omega, by omega, by simp -implicitDefEqProofs (disch := (first | omega | (simp only [go_sem] <;> omega) | fail)) only [go_sem, simprocAttr]; rfl, rfl⟩
  · rintro t e1 σ1 ⟨k, l, h0, ht, h3, hk, hkn, hB, hO, hl⟩
    have hl3 := limbs_len_u64 (n := n) (by omega)
    have hlen : l.length ≤ 3 := by rw [← hl] at hl3; simp at hl3; omega
    by_cases hpos : 0 < t
    · have hpos' : (0 : Int) < t := by omega
      have hls := limbs_pos (n := t) (by omega)
      simp -implicitDefEqProofs (disch := (first | omega | (simp only [go_sem] <;> omega) | fail)) only [go_sem, simprocAttr, h0, h3, hpos', tmod_nat, tdiv_nat, wrap_i64, hB]
      refine ⟨by omega, t / 1000000000, by omega, σ1.n + 1, l ++ [((t % 1000000000 : Nat) : Int)], rfl, by omega, by simp, by omega, by omega, ?_, by simp -implicitDefEqProofs (disch := (first | omega | (simp only [go_sem] <;> omega) | fail)) only [go_sem, simprocAttr, hO], by rw [← hl, hls]; simp⟩
      simp -implicitDefEqProofs (disch := (first | omega | (simp only [go_sem] <;> omega) | fail)) only [go_sem, simprocAttr]
    · have hpos' : ¬ (0 : Int) < t := by omega
      have : t = 0 := by omega
      subst this
      rw [limbs_zero, List.append_nil] at hl
      subst hl
      simp -implicitDefEqProofs (disch := (first | omega | (simp only [go_sem] <;> omega) | fail)) only [go_sem, simprocAttr, h0, h3, hpos', hB, hO]
      exact h

set_option maxRecDepth 100000 in
set_option maxHeartbeats 1000000 in
theorem sin_ok (x a b : Int) (e : Env) (σ : St) (K : KT) (h : K (.lit (.bool (decide (a ≤ x) && decide (x ≤ b)))) e σ) : ACall Tryz.prog 43 [.lit (.int .i64 x), .lit (.int .i64 a), .lit (.int .i64 b)] e σ K := by
  refine ACall.pureW Tryz.func43 rfl Tryz.ntmps43 Tryz.results43 rfl rfl rfl ?_
  by_cases h0 : a ≤ x
  · by_cases h1 : x ≤ b
    · simp -implicitDefEqProofs (disch := (first | omega | (simp only [go_sem] <;> omega) | fail)) only [go_sem, simprocAttr, h0, h1]
      simp [h0, h1] at h
      exact h
    · simp -implicitDefEqProofs (disch := (first | omega | (simp only [go_sem] <;> omega) | fail)) only [go_sem, simprocAttr, h0, h1]
      simp [h0, h1] at h
      exact h
  · simp -implicitDefEqProofs (disch := (first | omega | (simp only [go_sem] <;> omega) | fail)) only [go_sem, simprocAttr, h0]
    simp [h0] at h
    exact h

theorem all_take_succ {α : Type} {p : α → Bool} {l : List α} {i : Nat} (h : i < l.length) (ha : (l.take i).all p = true) (hp : p l[i] = true) : (l.take (i + 1)).all p = true := by
  rw [List.take_succ_eq_append_getElem h, List.all_append, ha]; simp [hp]
theorem all_not {α : Type} {p : α → Bool} {l : List α} {i : Nat} (h : i < l.length) (hp : p l[i] = false) : l.all p = false := by
  rw [List.all_eq_false]; exact ⟨l[i], List.getElem_mem h, by simp [hp]⟩

set_option maxRecDepth 100000 in
set_option maxHeartbeats 1000000 in
theorem snatOk_ok (l : List Int) (hl : l.length ≤ 1000000000) (e : Env) (σ : St) (K : KT) (h : K (.lit (.bool (natOkB l))) e σ) : ACall Tryz.prog 99 [ints l] e σ K := by
  refine ACall.pureW Tryz.func99 rfl Tryz.ntmps99 Tryz.results99 rfl rfl rfl ?_
  unfold natOkB at h
  obtain ⟨p, hp⟩ : ∃ p : Int → Bool, p = fun x => decide (0 ≤ x) && decide (x < 1000000000) := ⟨_, rfl⟩
  rw [← hp] at h
  simp -implicitDefEqProofs (disch := (first | omega | (simp only [go_sem] <;> omega) | fail)) only [go_sem, simprocAttr]
  refine Sat.loopW (fun (t : Nat) e' σ' => ∃ i, t = l.length - i ∧ i ≤ l.length ∧ e' 0 = sl intRow l ∧ e' 5 = sl intRow l ∧ e' 6 = .lit (.int .i64 l.length) ∧ e' 7 = .lit (.int .i64 (i : Nat)) ∧ (l.take i).all p = true ∧ σ' = σ) (fun t => t) l.length rfl ⟨0, by omega, by omega, rfl, rfl, rfl, rfl, by simp, rfl⟩ ?_
  rintro t e1 σ1 ⟨i, rfl, hi, h0, h5, h6, h7, hA, rfl⟩
  by_cases hlt : i < l.length
  · have hlt' : (i : Int) < l.length := by omega
    have hx := getD_elem l i hlt 0
    simp -implicitDefEqProofs (disch := (first | omega | (simp only [go_sem] <;> omega) | fail)) only [go_sem, simprocAttr, h0, h5, h6, h7, hlt', getD_int, hx]
    refine callF.plain (sin_ok _ _ _ _ _ _ ?_)
    have hp2 : (decide (0 ≤ l[i]) && decide (l[i] ≤ 999999999)) = p l[i] := by
      rw [hp]; congr 1; apply decide_eq_decide.2; omega
    rw [hp2]
    by_cases hpx : p l[i] = true
    · simp -implicitDefEqProofs (disch := (first | omega | (simp only [go_sem] <;> omega) | fail)) only [go_sem, simprocAttr, hpx, h0, h5, h6, h7, wrap_i64]
      exact ⟨l.length - (i + 1), by omega, i + 1, rfl, by omega, rfl, all_take_succ hlt hA hpx⟩
    · have hpx' : p l[i] = false := by simpa using hpx
      rw [all_not hlt hpx', Bool.and_false] at h
      simp -implicitDefEqProofs (disch := (first | omega | (simp only [go_sem] <;> omega) | fail)) only [go_sem, simprocAttr, hpx']
      exact h
  · have hlt' : ¬ (i : Int) < l.length := by omega
    have hie : i = l.length := by omega
    subst hie
    rw [List.take_of_length_le (Nat.le_refl _)] at hA
    rw [hA, Bool.and_true] at h
    by_cases h60 : l.length ≤ 60
    · have h60' : (l.length : Int) ≤ 60 := by omega
      by_cases hz : l.length = 0
      · have hz' : (l.length : Int) = 0 := by omega
        have hn : l = [] := List.eq_nil_of_length_eq_zero hz
        simp -implicitDefEqProofs (disch := (first | omega | (simp only [go_sem] <;> omega) | fail)) only [go_sem, simprocAttr, h0, h5, h6, h7, hlt', h60', hz']
        simp [hn] at h
        exact h
      · have hz' : ¬ (l.length : Int) = 0 := by omega
        have hi' : ((l.length : Int) - 1).toNat = l.length - 1 := by omega
        have hn : l ≠ [] := fun h => hz (by rw [h]; rfl)
        simp only [h60, hn, decide_true, decide_false, Bool.true_and, Bool.false_or] at h
        by_cases hl0 : l.getD (l.length - 1) 0 = 0
        · simp -implicitDefEqProofs (disch := (first | omega | (simp only [go_sem] <;> omega) | fail)) only [go_sem, simprocAttr, h0, h5, h6, h7, hlt', h60', hz', hi', wrap_i64, getD_int, hl0]
          rw [hl0] at h
          exact h
        · simp -implicitDefEqProofs (disch := (first | omega | (simp only [go_sem] <;> omega) | fail)) only [go_sem, simprocAttr, h0, h5, h6, h7, hlt', h60', hz', hi', wrap_i64, getD_int, hl0]
          rw [decide_eq_true hl0] at h
          exact h
    · have h60' : ¬ (l.length : Int) ≤ 60 := by omega
      simp -implicitDefEqProofs (disch := (first | omega | (simp only [go_sem] <;> omega) | fail)) only [go_sem, simprocAttr, h0, h5, h6, h7, hlt', h60']
      simp [h60] at h
      exact h

theorem dig_canon {l : List Int} (hd : Dig l) (h : l = [] ∨ 1000000000 ^ (l.length - 1) ≤ valL l) : Canon l := by
  refine ⟨hd, fun hlast => ?_⟩
  rcases h with rfl | h
  · simp at hlast
  · have h1 := dropLast_val hlast
    have h2 := valL_lt (l := l.dropLast) (fun x hx => hd x (List.dropLast_subset _ hx))
    rw [h1, List.length_dropLast] at h2
    omega

theorem canon_val {l : List Int} (hc : Canon l) {n : Nat} (h : valL l = n) : l = limbs n := by
  rw [hc.eq, h, Int.toNat_natCast]

theorem snoc_step {D : List Int} {i : Nat} (hD : D.length = i) {S T a b c v k : Int} (h : valL D + 1000000000 ^ i * c = S + T) (hn : c + a + b = v + 1000000000 * k) : valL (D ++ [v]) + 1000000000 ^ (i + 1) * k = (S + 1000000000 ^ i * a) + (T + 1000000000 ^ i * b) := by
  rw [valL_snoc hD, Int.pow_succ]
  exact carry_step h (by omega)

theorem Dig.snoc {D : List Int} (hd : Dig D) {v : Int} (h0 : 0 ≤ v) (h1 : v < 1000000000) : Dig (D ++ [v]) :=
  Dig.append.2 ⟨hd, Dig.cons.2 ⟨⟨h0, h1⟩, Dig.nil⟩⟩

set_option maxRecDepth 100000 in
set_option maxHeartbeats 1000000 in
theorem sadd_ok (x y : List Int) (hx : Canon x) (hy : Canon y) (hlx : x.length ≤ 1000000) (hly : y.length ≤ 1000000) (e : Env) (σ : St) (K : KT) (h : K (ints (limbs (valL x + valL y).toNat)) e σ) : ACall Tryz.prog 158 [ints x, ints y] e σ K := by
  refine ACall.pureW Tryz.func158 rfl Tryz.ntmps158 Tryz.results158 rfl rfl rfl ?_
  simp -implicitDefEqProofs (disch := (first | omega | (simp only [go_sem] <;> omega) | fail)) only [go_sem, simprocAttr]
  refine Sat.loopW (fun (t : Nat) e' σ' => ∃ i k D c, t = 2 * (max x.length y.length - i) + Int.toNat c ∧ e' 0 = sl intRow x ∧ e' 1 = sl intRow y ∧ e' 5 = .os k 0 i ∧ e' 6 = .lit (.int .i64 c) ∧ e' 7 = .lit (.int .i64 (i : Nat)) ∧
    σ.n ≤ k ∧ k < σ'.n ∧ σ'.h k = bl intRow 1 D ∧ Old σ σ' ∧ D.length = i ∧ i ≤ max x.length y.length + 1 ∧ Dig D ∧ 0 ≤ c ∧ c ≤ 1 ∧ (max x.length y.length < i → c = 0 ∧ 1000000000 ^ (i - 1) ≤ valL D) ∧ valL D + 1000000000 ^ i * c = valL (x.take i) + valL (y.take i)) (fun t => t) (2 * max x.length y.length) rfl ?_ ?_
  · simp -implicitDefEqProofs (disch := (first | omega | (simp only [go_sem] <;> omega) | fail)) only [go_sem, simprocAttr]
    exact ⟨0, σ.n, [], 0, rfl, rfl, rfl, rfl, by omega, by omega, by simp -implicitDefEqProofs (disch := (first | omega | (simp only [go_sem] <;> omega) | fail)) only [go_sem, simprocAttr]; rfl, rfl, by omega, Dig.nil, by omega, by omega, by omega, by simp [valL]⟩
  · rintro t e1 σ1 ⟨i, k, D, c, rfl, h0, h1, h5, h6, h7, hk, hkn, hB, hO, hD, hi, hd, hc0, hc1, hend, hv⟩
    have hvx := valL_take_succ x i
    have hvy := valL_take_succ y i
    have hxi := hx.1.getD i
    have hyi := hy.1.getD i
    have hx0 : ¬ i < x.length → x.getD i 0 = 0 := fun h => by simp [List.getD, List.getElem?_eq_none (Nat.le_of_not_lt h)]
    have hy0 : ¬ i < y.length → y.getD i 0 = 0 := fun h => by simp [List.getD, List.getElem?_eq_none (Nat.le_of_not_lt h)]
    have hstep := snoc_step (a := x.getD i 0) (b := y.getD i 0) (v := (c + x.getD i 0 + y.getD i 0) % 1000000000) (k := (c + x.getD i 0 + y.getD i 0) / 1000000000) hD hv (by omega)
    rw [← hvx, ← hvy] at hstep
    have hsn := hd.snoc (v := (c + x.getD i 0 + y.getD i 0) % 1000000000) (by omega) (by omega)
    have hDt : D.take i = D := List.take_of_length_le (by omega)
    have hi0 : ∀ N, N = c + x.getD i 0 + y.getD i 0 → (i < x.length ∨ i < y.length ∨ 0 < c) → i + 1 ≤ max x.length y.length + 1 ∧ (D ++ [N % 1000000000]).length = i + 1 ∧ Dig (D ++ [N % 1000000000]) ∧ 0 ≤ N / 1000000000 ∧ N / 1000000000 ≤ 1 ∧ (max x.length y.length < i + 1 → N / 1000000000 = 0 ∧ 1000000000 ^ (i + 1 - 1) ≤ valL (D ++ [N % 1000000000])) ∧ valL (D ++ [N % 1000000000]) + 1000000000 ^ (i + 1) * (N / 1000000000) = valL (x.take (i + 1)) + valL (y.take (i + 1)) ∧ 2 * (max x.length y.length - (i + 1)) + Int.toNat (N / 1000000000) < 2 * (max x.length y.length - i) + Int.toNat c := by
      rintro N rfl hcase
      refine ⟨by omega, by simp [hD], hsn, by omega, by omega, fun hm => ?_, hstep, ?_⟩
      · have e1 := hx0 (by omega)
        have e2 := hy0 (by omega)
        have e3 : c = 1 := by omega
        rw [e1, e2, e3]
        refine ⟨by decide, ?_⟩
        rw [valL_snoc hD, Nat.add_sub_cancel]
        have := valL_nonneg hd
        have e4 : ((1 : Int) + 0 + 0) % 1000000000 = 1 := by decide
        rw [e4]; omega
      · by_cases hm : i < max x.length y.length
        · omega
        · have e1 := hx0 (by omega)
          have e2 := hy0 (by omega)
          have e3 : c = 1 := by omega
          rw [e1, e2, e3]
          have e4 : ((1 : Int) + 0 + 0) / 1000000000 = 0 := by decide
          rw [e4]
          simp
          omega
    by_cases hlx' : i < x.length
    · have fx : (i : Int) < x.length := by omega
      by_cases hly' : i < y.length
      · have fy : (i : Int) < y.length := by omega
        obtain ⟨g1, g2, g3, g4, g5, g6, g7, g8⟩ := hi0 (c + x.getD i 0 + y.getD i 0) (by omega) (.inl hlx')
        simp -implicitDefEqProofs (disch := (first | omega | (simp only [go_sem] <;> omega) | fail)) only [go_sem, simprocAttr, h0, h1, h5, h6, h7, fx, fy, fy, hB, hDt, wrap_i64, getD_int, tmod_pos, tdiv_pos]
        exact ⟨by omega, _, g8, i + 1, σ1.n + 1, D ++ [(c + x.getD i 0 + y.getD i 0) % 1000000000], (c + x.getD i 0 + y.getD i 0) / 1000000000, rfl, rfl, rfl, rfl, by omega, by omega, by simp -implicitDefEqProofs (disch := (first | omega | (simp only [go_sem] <;> omega) | fail)) only [go_sem, simprocAttr], by simp -implicitDefEqProofs (disch := (first | omega | (simp only [go_sem] <;> omega) | fail)) only [go_sem, simprocAttr, hO], g2, g1, g3, g4, g5, g6, g7⟩
      · have fy : ¬ (i : Int) < y.length := by omega
        have := hy0 hly'
        obtain ⟨g1, g2, g3, g4, g5, g6, g7, g8⟩ := hi0 (c + x.getD i 0) (by omega) (.inl hlx')
        simp -implicitDefEqProofs (disch := (first | omega | (simp only [go_sem] <;> omega) | fail)) only [go_sem, simprocAttr, h0, h1, h5, h6, h7, fx, fy, fy, hB, hDt, wrap_i64, getD_int, tmod_pos, tdiv_pos]
        exact ⟨by omega, _, g8, i + 1, σ1.n + 1, D ++ [(c + x.getD i 0) % 1000000000], (c + x.getD i 0) / 1000000000, rfl, rfl, rfl, rfl, by omega, by omega, by simp -implicitDefEqProofs (disch := (first | omega | (simp only [go_sem] <;> omega) | fail)) only [go_sem, simprocAttr], by simp -implicitDefEqProofs (disch := (first | omega | (simp only [go_sem] <;> omega) | fail)) only [go_sem, simprocAttr, hO], g2, g1, g3, g4, g5, g6, g7⟩
    · have fx : ¬ (i : Int) < x.length := by omega
      have := hx0 hlx'
      by_cases hly' : i < y.length
      · have fy : (i : Int) < y.length := by omega
        obtain ⟨g1, g2, g3, g4, g5, g6, g7, g8⟩ := hi0 (c + y.getD i 0) (by omega) (.inr (.inl hly'))
        simp -implicitDefEqProofs (disch := (first | omega | (simp only [go_sem] <;> omega) | fail)) only [go_sem, simprocAttr, h0, h1, h5, h6, h7, fx, fy, fy, hB, hDt, wrap_i64, getD_int, tmod_pos, tdiv_pos]
        exact ⟨by omega, _, g8, i + 1, σ1.n + 1, D ++ [(c + y.getD i 0) % 1000000000], (c + y.getD i 0) / 1000000000, rfl, rfl, rfl, rfl, by omega, by omega, by simp -implicitDefEqProofs (disch := (first | omega | (simp only [go_sem] <;> omega) | fail)) only [go_sem, simprocAttr], by simp -implicitDefEqProofs (disch := (first | omega | (simp only [go_sem] <;> omega) | fail)) only [go_sem, simprocAttr, hO], g2, g1, g3, g4, g5, g6, g7⟩
      · have fy : ¬ (i : Int) < y.length := by omega
        have := hy0 hly'
        by_cases hc : 0 < c
        · skip
          obtain ⟨g1, g2, g3, g4, g5, g6, g7, g8⟩ := hi0 (c) (by omega) (.inr (.inr hc))
          simp -implicitDefEqProofs (disch := (first | omega | (simp only [go_sem] <;> omega) | fail)) only [go_sem, simprocAttr, h0, h1, h5, h6, h7, fx, fy, hc, hB, hDt, wrap_i64, getD_int, tmod_pos, tdiv_pos]
          exact ⟨by omega, _, g8, i + 1, σ1.n + 1, D ++ [(c) % 1000000000], (c) / 1000000000, rfl, rfl, rfl, rfl, by omega, by omega, by simp -implicitDefEqProofs (disch := (first | omega | (simp only [go_sem] <;> omega) | fail)) only [go_sem, simprocAttr], by simp -implicitDefEqProofs (disch := (first | omega | (simp only [go_sem] <;> omega) | fail)) only [go_sem, simprocAttr, hO], g2, g1, g3, g4, g5, g6, g7⟩
        · have hcz : c = 0 := by omega
          rw [hcz, Int.mul_zero, Int.add_zero, List.take_of_length_le (by omega), List.take_of_length_le (by omega)] at hv
          have hcan : Canon D := by
            refine dig_canon hd ?_
            by_cases hm : max x.length y.length < i
            · right; rw [hD]; exact (hend hm).2
            · by_cases hi0 : i = 0
              · left; exact List.eq_nil_of_length_eq_zero (by omega)
              · right
                rw [hD, hv]
                have n1 := valL_nonneg hx.1
                have n2 := valL_nonneg hy.1
                by_cases hxy : x.length = i
                · have := canon_ge hx (by intro h0; rw [h0] at hxy; simp at hxy; omega)
                  rw [hxy] at this; omega
                · have hyl : y.length = i := by omega
                  have := canon_ge hy (by intro h0; rw [h0] at hyl; simp at hyl; omega)
                  rw [hyl] at this; omega
          have hDe := hcan.eq
          rw [hv] at hDe
          simp -implicitDefEqProofs (disch := (first | omega | (simp only [go_sem] <;> omega) | fail)) only [go_sem, simprocAttr, h0, h1, h5, h6, h7, fx, fy, hc, hB, hO, hDt]
          rw [hDe]
          exact h
end Go.Proofs.Qqz
