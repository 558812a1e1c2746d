/- Contracts: limbs cut, made and compared. -/
import Derived.Test.YtanoekhdoelkbaaGreatKe
set_option linter.unusedSimpArgs false
set_option linter.unusedVariables false
namespace Go.Proofs.Qqz
open Go

theorem getLast_getD {m : List Int} (h : 0 < m.length) : m.getLast? = some (m.getD (m.length - 1) 0) := by
  have h1 : m.length - 1 < m.length := by omega
  rw [List.getLast?_eq_getElem?, List.getD, List.getElem?_eq_getElem h1]; rfl

theorem trimL_step {m : List Int} (h : 0 < m.length) (h0 : m.getD (m.length - 1) 0 = 0) : trimL m = trimL m.dropLast := by
  rw [trimL, getLast_getD h, h0, if_pos rfl]
theorem trimL_stop {m : List Int} (h : 0 < m.length) (h0 : ¬ m.getD (m.length - 1) 0 = 0) : trimL m = m := by
  rw [trimL, getLast_getD h, if_neg (by simpa using h0)]
theorem trimL_nil {m : List Int} (h : ¬ 0 < m.length) : trimL m = m := by
  have : m = [] := List.eq_nil_of_length_eq_zero (by omega)
  subst this; rw [trimL]; simp
theorem toNat_pred {n : Nat} (h : 0 < n) : ((n : Int) - 1).toNat = n - 1 := by omega

set_option maxRecDepth 100000 in
set_option maxHeartbeats 1000000 in
theorem trim_ok (l : List Int) (hl : l.length ≤ 1000000000) (e : Env) (σ : St) (K : KT) (h : K (ints (trimL l)) e σ) : ACall Tryz.prog 170 [ints l] e σ K := by
  refine ACall.pureW Tryz.func170 rfl Tryz.ntmps170 Tryz.results170 rfl rfl rfl ?_
  simp -implicitDefEqProofs (disch := (first | omega | (simp only [go_sem] <;> omega) | fail)) only [go_sem, simprocAttr]
  refine Sat.loopW (fun (m : List Int) e' σ' => e' 0 = sl intRow m ∧ m.length ≤ 1000000000 ∧ trimL m = trimL l ∧ σ' = σ) (fun m => m.length) l rfl ?_ ?_
  · exact ⟨rfl, hl, rfl, rfl⟩
  · rintro m e1 σ1 ⟨h0, hm, htr, rfl⟩
    by_cases hpos : 0 < m.length
    · have hpos' : (0 : Int) < m.length := by omega
      have hn := toNat_pred hpos
      by_cases hx : m.getD (m.length - 1) 0 = 0
      · simp -implicitDefEqProofs (disch := (first | omega | (simp only [go_sem] <;> omega) | fail)) only [go_sem, simprocAttr, h0, wrap_i64, hpos', getD_int, hn, hx]
        refine ⟨m.dropLast, by simp; omega, ?_, by simp; omega, ?_⟩
        · rw [List.dropLast_eq_take]; congr 2; omega
        · rw [← trimL_step hpos hx, htr]
      · simp -implicitDefEqProofs (disch := (first | omega | (simp only [go_sem] <;> omega) | fail)) only [go_sem, simprocAttr, h0, wrap_i64, hpos', getD_int, hn, hx]
        rw [← htr, trimL_stop hpos hx] at h
        exact h
    · have hpos' : ¬ (0 : Int) < m.length := by omega
      simp -implicitDefEqProofs (disch := (first | omega | (simp only [go_sem] <;> omega) | fail)) only [go_sem, simprocAttr, h0, wrap_i64, hpos', getD_int]
      rw [← htr, trimL_nil hpos] at h
      exact h

set_option maxRecDepth 100000 in
set_option maxHeartbeats 1000000 in
theorem trim_own (id len : Nat) (L : List Int) (e : Env) (σ : St) (hid : id < σ.n) (hB : σ.h id = bl intRow 1 L) (hlen : len ≤ L.length) (hl : len ≤ 1000000000) (K : KT) (h : K (.os id 0 (trimL (L.take len)).length) e σ) : ACall Tryz.prog 170 [.os id 0 len] e σ K := by
  refine ACall.pureW Tryz.func170 rfl Tryz.ntmps170 Tryz.results170 rfl rfl rfl ?_
  simp -implicitDefEqProofs (disch := (first | omega | (simp only [go_sem] <;> omega) | fail)) only [go_sem, simprocAttr]
  refine Sat.loopW (fun (k : Nat) e' σ' => e' 0 = .os id 0 k ∧ k ≤ len ∧ trimL (L.take k) = trimL (L.take len) ∧ σ' = σ) (fun k => k) len rfl ?_ ?_
  · exact ⟨rfl, Nat.le_refl _, rfl, rfl⟩
  · rintro k e1 σ1 ⟨h0, hm, htr, rfl⟩
    have hlk : (L.take k).length = k := by simp; omega
    by_cases hpos : 0 < k
    · have hpos' : (0 : Int) < k := by omega
      have hn := toNat_pred hpos
      have hget : (L.take k).getD (k - 1) 0 = L.getD (k - 1) 0 := by
        simp only [List.getD, List.getElem?_take]; rw [if_pos (by omega)]
      by_cases hx : L.getD (k - 1) 0 = 0
      · simp -implicitDefEqProofs (disch := (first | omega | (simp only [go_sem] <;> omega) | fail)) only [go_sem, simprocAttr, h0, wrap_i64, hpos', getD_int, hn, hB, hx]
        refine ⟨k - 1, by omega, ?_, by omega, ?_⟩
        · congr 1; omega
        · rw [← htr, trimL_step (m := L.take k) (by omega) (by rw [hlk, hget]; exact hx), List.dropLast_eq_take, hlk, List.take_take]
          congr 2; omega
      · simp -implicitDefEqProofs (disch := (first | omega | (simp only [go_sem] <;> omega) | fail)) only [go_sem, simprocAttr, h0, wrap_i64, hpos', getD_int, hn, hB, hx]
        rw [← htr, trimL_stop (m := L.take k) (by omega) (by rw [hlk, hget]; exact hx), hlk] at h
        exact h
    · have hpos' : ¬ (0 : Int) < k := by omega
      simp -implicitDefEqProofs (disch := (first | omega | (simp only [go_sem] <;> omega) | fail)) only [go_sem, simprocAttr, h0, wrap_i64, hpos', getD_int]
      rw [← htr, trimL_nil (m := L.take k) (by omega), hlk] at h
      exact h

/-- The same, by the number that the limbs stand for. -/
theorem trim_num (id len : Nat) (L : List Int) (v : Nat) (e : Env) (σ : St) (hid : id < σ.n) (hB : σ.h id = bl intRow 1 L) (hlen : len ≤ L.length) (hl : len ≤ 1000000000) (hd : Dig (L.take len)) (hv : valL (L.take len) = v) (K : KT)
    (h : (limbs v).length ≤ L.length → L.take (limbs v).length = limbs v → K (.os id 0 (limbs v).length) e σ) : ACall Tryz.prog 170 [.os id 0 len] e σ K := by
  refine trim_own id len L e σ hid hB hlen hl K ?_
  obtain ⟨h1, h2, h3⟩ := cut_block hd hv
  rw [trimL_eq hd, hv]
  exact h h1 h3

theorem tmod_nat (n : Nat) : ((n : Int)).tmod 1000000000 = ((n % 1000000000 : Nat) : Int) := by
  rw [Int.tmod_eq_emod_of_nonneg (by omega)]; omega
theorem tdiv_nat (n : Nat) : ((n : Int)).tdiv 1000000000 = ((n / 1000000000 : Nat) : Int) := by
  rw [Int.tdiv_eq_ediv_of_nonneg (by omega)]; omega

theorem limbs_len_u64 {n : Nat} (hn : n ≤ 18446744073709551615) : (limbs n).length ≤ 3 := limbs_length_le n 3 (by omega)

set_option maxRecDepth 100000 in
set_option maxHeartbeats 1000000 in
theorem limbsOf_ok (n : Nat) (hn : n ≤ 18446744073709551615) (e : Env) (σ : St) (K : KT) (h : K (ints (limbs n)) e σ) : ACall Tryz.prog 147 [.lit (.int .u64 n)] e σ K := by
  refine ACall.pureW Tryz.func147 rfl Tryz.ntmps147 Tryz.results147 rfl rfl rfl ?_
  simp -implicitDefEqProofs (disch := (first | omega | (simp only [go_sem] <;> omega) | fail)) only [go_sem, simprocAttr]
  refine Sat.loopW (fun (t : Nat) e' σ' => e' 0 = .lit (.int .u64 t) ∧ t ≤ n ∧ ((e' 3 = .lit (.slice none 0 0) ∧ t = n ∧ σ' = σ) ∨ ∃ ρ l, Old σ ρ ∧ σ.n ≤ ρ.n ∧ e' 3 = .os ρ.n 0 l.length ∧ σ' = ρ.new (bl intRow 1 l) ∧ l ++ limbs t = limbs n)) (fun t => t) n rfl ?_ ?_
  · exact ⟨rfl, Nat.le_refl _, .inl ⟨rfl, rfl, rfl⟩⟩
  · rintro t e1 σ1 ⟨h0, ht, hcase⟩
    have hl3 := limbs_len_u64 hn
    by_cases hpos : 0 < t
    · have hpos' : (0 : Int) < t := by omega
      have hls := limbs_pos (n := t) (by omega)
      rcases hcase with ⟨h3, rfl, rfl⟩ | ⟨ρ, l, hO, hρ, h3, rfl, hl⟩
      · simp -implicitDefEqProofs (disch := (first | omega | (simp only [go_sem] <;> omega) | fail)) only [go_sem, simprocAttr, h0, h3, hpos', tmod_nat, tdiv_nat, wrap_i64, wrap_u64]
        exact ⟨t / 1000000000, by omega, rfl, by omega, .inr ⟨_, [((t % 1000000000 : Nat) : Int)], (Old.refl _).new _, Nat.le_succ _, rfl, rfl, hls.symm⟩⟩
      · have hlen : l.length ≤ 3 := by rw [← hl] at hl3; simp at hl3; omega
        simp -implicitDefEqProofs (disch := (first | omega | (simp only [go_sem] <;> omega) | fail)) only [go_sem, simprocAttr, h0, h3, hpos', tmod_nat, tdiv_nat, wrap_i64, wrap_u64]
        refine ⟨by omega, t / 1000000000, by omega, rfl, by omega, .inr ⟨_, l ++ [((t % 1000000000 : Nat) : Int)], ((hO.new _).new _).put hρ _, ?_, by simp; rfl, rfl, ?_⟩⟩
        · simp only [St_new_n, St_put_n]; omega
        · rw [← hl, hls]; simp
    · have hpos' : ¬ (0 : Int) < t := by omega
      rcases hcase with ⟨h3, rfl, rfl⟩ | ⟨ρ, l, hO, hρ, h3, rfl, hl⟩
      · simp -implicitDefEqProofs (disch := (first | omega | (simp only [go_sem] <;> omega) | fail)) only [go_sem, simprocAttr, h0, h3, hpos']
        have : t = 0 := by omega
        subst this
        rw [limbs_zero] at h
        exact h
      · simp -implicitDefEqProofs (disch := (first | omega | (simp only [go_sem] <;> omega) | fail)) only [go_sem, simprocAttr, h0, h3, hpos', hO]
        have : t = 0 := by omega
        subst this
        rw [limbs_zero, List.append_nil] at hl
        subst hl
        exact h

theorem mixed : Tryz.prog.follows .mixedOrders = true := by kernel_rfl

set_option maxRecDepth 100000 in
set_option maxHeartbeats 1000000 in
theorem compare_ok (x y : List Int) (hx : Canon x) (hy : Canon y) (hlx : x.length ≤ 1000000) (hly : y.length ≤ 1000000) (e : Env) (σ : St) (K : KT) (h : K (.lit (.int .i64 (cmpZ (valL x) (valL y)))) e σ) : ACall Tryz.prog 166 [ints x, ints y] e σ K := by
  refine ACall.pureW Tryz.func166 rfl Tryz.ntmps166 Tryz.results166 rfl rfl rfl ?_
  by_cases hlen : x.length = y.length
  · have hlen' : ¬ ((¬ (x.length : Int) = y.length)) := by omega
    simp -implicitDefEqProofs (disch := (first | omega | (simp only [go_sem] <;> omega) | fail)) only [go_sem, simprocAttr, wrap_i64, hlen, hlen']
    refine Sat.loopW (fun (t : Nat) e' σ' => e' 0 = sl intRow x ∧ e' 1 = sl intRow y ∧ e' 5 = .lit (.int .i64 ((t : Int) - 1)) ∧ t ≤ x.length ∧ x.drop t = y.drop t ∧ σ' = σ) (fun t => t) x.length rfl ?_ ?_
    · refine ⟨rfl, rfl, ?_, Nat.le_refl _, ?_, rfl⟩
      · rw [hlen]; rfl
      · rw [List.drop_of_length_le (Nat.le_refl _), List.drop_of_length_le (by omega)]
    · rintro t e1 σ1 ⟨h0, h1, h5, ht, hd, rfl⟩
      by_cases hpos : 0 < t
      · have hpos' : (0 : Int) ≤ (t : Int) - 1 := by omega
        have hn := toNat_pred hpos
        obtain ⟨t, rfl⟩ : ∃ t', t = t' + 1 := ⟨t - 1, by omega⟩
        simp -implicitDefEqProofs (disch := (first | omega | (simp only [go_sem] <;> omega) | fail)) only [go_sem, simprocAttr, h0, h1, h5, hpos']
        refine Sat.drawn0 [] mixed (by kernel_rfl) ?_
        by_cases hlt : x.getD t 0 < y.getD t 0
        · simp -implicitDefEqProofs (disch := (first | omega | (simp only [go_sem] <;> omega) | fail)) only [go_sem, simprocAttr, h0, h1, h5, hn, getD_int, hlt, Nat.add_sub_cancel]
          rw [cmpZ_lt (valL_lt_of_digit hx.1 hy.1 hlen (by omega) hd hlt)] at h
          exact h
        · simp -implicitDefEqProofs (disch := (first | omega | (simp only [go_sem] <;> omega) | fail)) only [go_sem, simprocAttr, h0, h1, h5, hn, getD_int, hlt, Nat.add_sub_cancel]
          refine Sat.drawn0 [] mixed (by kernel_rfl) ?_
          by_cases hgt : y.getD t 0 < x.getD t 0
          · simp -implicitDefEqProofs (disch := (first | omega | (simp only [go_sem] <;> omega) | fail)) only [go_sem, simprocAttr, h0, h1, h5, hn, getD_int, hgt, Nat.add_sub_cancel]
            rw [cmpZ_gt (valL_lt_of_digit hy.1 hx.1 hlen.symm (by omega) hd.symm hgt)] at h
            exact h
          · simp -implicitDefEqProofs (disch := (first | omega | (simp only [go_sem] <;> omega) | fail)) only [go_sem, simprocAttr, h0, h1, h5, hn, getD_int, hgt, Nat.add_sub_cancel, wrap_i64]
            refine ⟨t, by omega, ?_, by omega, drop_eq_step hlen (by omega) hd (by omega)⟩
            congr 2
            omega
      · have hpos' : ¬ (0 : Int) ≤ (t : Int) - 1 := by omega
        have : t = 0 := by omega
        subst this
        simp -implicitDefEqProofs (disch := (first | omega | (simp only [go_sem] <;> omega) | fail)) only [go_sem, simprocAttr, h0, h1, h5, hpos']
        simp only [List.drop_zero] at hd
        rw [hd, cmpZ_eq rfl] at h
        exact h
  · have hlen' : ¬ ((x.length : Int) = y.length) := by omega
    by_cases hlt : x.length < y.length
    · have hlt' : (x.length : Int) < y.length := by omega
      simp -implicitDefEqProofs (disch := (first | omega | (simp only [go_sem] <;> omega) | fail)) only [go_sem, simprocAttr, hlen', hlt']
      rw [cmpZ_lt (valL_lt_of_len hx.1 hy hlt)] at h
      exact h
    · have hlt' : ¬ (x.length : Int) < y.length := by omega
      simp -implicitDefEqProofs (disch := (first | omega | (simp only [go_sem] <;> omega) | fail)) only [go_sem, simprocAttr, hlen', hlt']
      rw [cmpZ_gt (valL_lt_of_len hy.1 hx (by omega))] at h
      exact h
end Go.Proofs.Qqz
namespace Go.Proofs.Qqz
open Go


set_option maxRecDepth 100000 in
set_option maxHeartbeats 1000000 in
/-- The sum. -/
theorem plus_ok (x y : List Int) (hx : Dig x) (hy : Dig y) (hlx : x.length ≤ 1000000) (hly : y.length ≤ 1000000) (e : Env) (σ : St) (K : KT) (h : K (ints (limbs (valL x + valL y).toNat)) e σ) : ACall Tryz.prog 168 [ints x, ints y] e σ K := by
  refine ACall.pureW Tryz.func168 rfl Tryz.ntmps168 Tryz.results168 rfl rfl rfl ?_
  by_cases hsw : x.length < y.length
  · have hsw' : (x.length : Int) < y.length := by omega
    have hle : x.length ≤ y.length := by omega
    rw [Int.add_comm] at h
    simp -implicitDefEqProofs (disch := (first | omega | (simp only [go_sem] <;> omega) | fail)) only [go_sem, simprocAttr, wrap_i64, hsw']
    refine Sat.loopW (fun (t : Nat) e' σ' => ∃ i L c, t = y.length - i ∧ i ≤ y.length ∧ e' 0 = sl intRow y ∧ e' 1 = sl intRow x ∧ e' 5 = .os σ.n 0 (y.length + 1) ∧ e' 6 = .lit (.int .i64 c) ∧ e' 20 = sl intRow y ∧ e' 21 = .lit (.int .i64 y.length) ∧ e' 22 = .lit (.int .i64 (i : Nat)) ∧
      σ'.n = σ.n + 1 ∧ σ'.h σ.n = bl intRow 1 L ∧ Old σ σ' ∧ L.length = y.length + 1 ∧ Dig (L.take i) ∧ 0 ≤ c ∧ c ≤ 1 ∧ valL (L.take i) + 1000000000 ^ i * c = valL (y.take i) + valL (x.take i)) (fun t => t) y.length rfl ?_ ?_
    · simp -implicitDefEqProofs (disch := (first | omega | (simp only [go_sem] <;> omega) | fail)) only [go_sem, simprocAttr]
      refine ⟨0, List.replicate (y.length + 1) 0, 0, ?_⟩
      have e1 : ((y.length : Int) + 1).toNat = y.length + 1 := by omega
      rw [e1]
      refine ⟨by omega, by omega, rfl, rfl, rfl, rfl, by simp, by simp [Dig], by omega, by omega, by simp [valL]⟩
    · rintro t e1 σ1 ⟨i, L, c, rfl, hi, h0, h1, h5, h6, h20, h21, h22, hn, hB, hO, hL, hd, hc0, hc1, hv⟩
      have hvx := valL_take_succ y i
      have hvy := valL_take_succ x i
      by_cases hlt : i < y.length
      · have hlt' : (i : Int) < y.length := by omega
        have hxi := hy.getD i
        have hyi := hx.getD i
        by_cases hiy : i < x.length
        · have hiy' : (i : Int) < x.length := by omega
          simp -implicitDefEqProofs (disch := (first | omega | (simp only [go_sem] <;> omega) | fail)) only [go_sem, simprocAttr, h0, h1, h5, h6, h20, h21, h22, hlt', hiy', hn, hB, hO, wrap_i64, getD_int, tmod_pos, tdiv_pos]
          have hs := valL_set (l := L) (i := i) (by omega) ((y.getD i 0 + c + x.getD i 0) % 1000000000)
          refine ⟨y.length - (i + 1), by omega, i + 1, L.set i ((y.getD i 0 + c + x.getD i 0) % 1000000000), (y.getD i 0 + c + x.getD i 0) / 1000000000, rfl, by omega, rfl, rfl, rfl, by simpa using hL, Dig_set (by omega) hd (by omega) (by omega), by omega, by omega, ?_⟩
          rw [hs, hvx, hvy, Int.pow_succ]
          exact carry_step hv (by omega)
        · have hiy' : ¬ (i : Int) < x.length := by omega
          have hy0 : x.getD i 0 = 0 := by simp [List.getD, List.getElem?_eq_none (Nat.le_of_not_lt hiy)]
          simp -implicitDefEqProofs (disch := (first | omega | (simp only [go_sem] <;> omega) | fail)) only [go_sem, simprocAttr, h0, h1, h5, h6, h20, h21, h22, hlt', hiy', hn, hB, hO, wrap_i64, getD_int, tmod_pos, tdiv_pos]
          have hs := valL_set (l := L) (i := i) (by omega) ((y.getD i 0 + c) % 1000000000)
          refine ⟨y.length - (i + 1), by omega, i + 1, L.set i ((y.getD i 0 + c) % 1000000000), (y.getD i 0 + c) / 1000000000, rfl, by omega, rfl, rfl, rfl, by simpa using hL, Dig_set (by omega) hd (by omega) (by omega), by omega, by omega, ?_⟩
          rw [hs, hvx, hvy, Int.pow_succ]
          exact carry_step hv (by omega)
      · have hlt' : ¬ (i : Int) < y.length := by omega
        have hie : i = y.length := by omega
        subst hie
        simp -implicitDefEqProofs (disch := (first | omega | (simp only [go_sem] <;> omega) | fail)) only [go_sem, simprocAttr, h0, h1, h5, h6, h20, h21, h22, hlt', hn, hB, hO, wrap_i64]
        refine callF.plain ?_
        have hs := valL_set (l := L) (i := y.length) (by omega) c
        have hds := Dig_set (l := L) (i := y.length) (by omega) hd hc0 (by omega)
        refine trim_num σ.n (y.length + 1) (L.set y.length c) (valL y + valL x).toNat _ _ ?_ ?_ ?_ ?_ hds ?_ _ fun hle hcut => ?_
        · simp only [St_put_n, hn]; omega
        · simp -implicitDefEqProofs (disch := (first | omega | (simp only [go_sem] <;> omega) | fail)) only [go_sem, simprocAttr, hB]
        · simp [hL]
        · omega
        · rw [hs, hv, List.take_of_length_le (Nat.le_refl y.length), List.take_of_length_le hle]
          have := valL_nonneg hy
          have := valL_nonneg hx
          omega
        · simp -implicitDefEqProofs (disch := (first | omega | (simp only [go_sem] <;> omega) | fail)) only [go_sem, simprocAttr, hB, hn, hO, hcut]
          exact h
  · have hsw' : ¬ (x.length : Int) < y.length := by omega
    have hle : y.length ≤ x.length := by omega
    simp -implicitDefEqProofs (disch := (first | omega | (simp only [go_sem] <;> omega) | fail)) only [go_sem, simprocAttr, wrap_i64, hsw']
    refine Sat.loopW (fun (t : Nat) e' σ' => ∃ i L c, t = x.length - i ∧ i ≤ x.length ∧ e' 0 = sl intRow x ∧ e' 1 = sl intRow y ∧ e' 5 = .os σ.n 0 (x.length + 1) ∧ e' 6 = .lit (.int .i64 c) ∧ e' 20 = sl intRow x ∧ e' 21 = .lit (.int .i64 x.length) ∧ e' 22 = .lit (.int .i64 (i : Nat)) ∧
      σ'.n = σ.n + 1 ∧ σ'.h σ.n = bl intRow 1 L ∧ Old σ σ' ∧ L.length = x.length + 1 ∧ Dig (L.take i) ∧ 0 ≤ c ∧ c ≤ 1 ∧ valL (L.take i) + 1000000000 ^ i * c = valL (x.take i) + valL (y.take i)) (fun t => t) x.length rfl ?_ ?_
    · simp -implicitDefEqProofs (disch := (first | omega | (simp only [go_sem] <;> omega) | fail)) only [go_sem, simprocAttr]
      refine ⟨0, List.replicate (x.length + 1) 0, 0, ?_⟩
      have e1 : ((x.length : Int) + 1).toNat = x.length + 1 := by omega
      rw [e1]
      refine ⟨by omega, by omega, rfl, rfl, rfl, rfl, by simp, by simp [Dig], by omega, by omega, by simp [valL]⟩
    · rintro t e1 σ1 ⟨i, L, c, rfl, hi, h0, h1, h5, h6, h20, h21, h22, hn, hB, hO, hL, hd, hc0, hc1, hv⟩
      have hvx := valL_take_succ x i
      have hvy := valL_take_succ y i
      by_cases hlt : i < x.length
      · have hlt' : (i : Int) < x.length := by omega
        have hxi := hx.getD i
        have hyi := hy.getD i
        by_cases hiy : i < y.length
        · have hiy' : (i : Int) < y.length := by omega
          simp -implicitDefEqProofs (disch := (first | omega | (simp only [go_sem] <;> omega) | fail)) only [go_sem, simprocAttr, h0, h1, h5, h6, h20, h21, h22, hlt', hiy', hn, hB, hO, wrap_i64, getD_int, tmod_pos, tdiv_pos]
          have hs := valL_set (l := L) (i := i) (by omega) ((x.getD i 0 + c + y.getD i 0) % 1000000000)
          refine ⟨x.length - (i + 1), by omega, i + 1, L.set i ((x.getD i 0 + c + y.getD i 0) % 1000000000), (x.getD i 0 + c + y.getD i 0) / 1000000000, rfl, by omega, rfl, rfl, rfl, by simpa using hL, Dig_set (by omega) hd (by omega) (by omega), by omega, by omega, ?_⟩
          rw [hs, hvx, hvy, Int.pow_succ]
          exact carry_step hv (by omega)
        · have hiy' : ¬ (i : Int) < y.length := by omega
          have hy0 : y.getD i 0 = 0 := by simp [List.getD, List.getElem?_eq_none (Nat.le_of_not_lt hiy)]
          simp -implicitDefEqProofs (disch := (first | omega | (simp only [go_sem] <;> omega) | fail)) only [go_sem, simprocAttr, h0, h1, h5, h6, h20, h21, h22, hlt', hiy', hn, hB, hO, wrap_i64, getD_int, tmod_pos, tdiv_pos]
          have hs := valL_set (l := L) (i := i) (by omega) ((x.getD i 0 + c) % 1000000000)
          refine ⟨x.length - (i + 1), by omega, i + 1, L.set i ((x.getD i 0 + c) % 1000000000), (x.getD i 0 + c) / 1000000000, rfl, by omega, rfl, rfl, rfl, by simpa using hL, Dig_set (by omega) hd (by omega) (by omega), by omega, by omega, ?_⟩
          rw [hs, hvx, hvy, Int.pow_succ]
          exact carry_step hv (by omega)
      · have hlt' : ¬ (i : Int) < x.length := by omega
        have hie : i = x.length := by omega
        subst hie
        simp -implicitDefEqProofs (disch := (first | omega | (simp only [go_sem] <;> omega) | fail)) only [go_sem, simprocAttr, h0, h1, h5, h6, h20, h21, h22, hlt', hn, hB, hO, wrap_i64]
        refine callF.plain ?_
        have hs := valL_set (l := L) (i := x.length) (by omega) c
        have hds := Dig_set (l := L) (i := x.length) (by omega) hd hc0 (by omega)
        refine trim_num σ.n (x.length + 1) (L.set x.length c) (valL x + valL y).toNat _ _ ?_ ?_ ?_ ?_ hds ?_ _ fun hle hcut => ?_
        · simp only [St_put_n, hn]; omega
        · simp -implicitDefEqProofs (disch := (first | omega | (simp only [go_sem] <;> omega) | fail)) only [go_sem, simprocAttr, hB]
        · simp [hL]
        · omega
        · rw [hs, hv, List.take_of_length_le (Nat.le_refl x.length), List.take_of_length_le hle]
          have := valL_nonneg hx
          have := valL_nonneg hy
          omega
        · simp -implicitDefEqProofs (disch := (first | omega | (simp only [go_sem] <;> omega) | fail)) only [go_sem, simprocAttr, hB, hn, hO, hcut]
          exact h

set_option maxRecDepth 100000 in
set_option maxHeartbeats 1000000 in
theorem minus_ok (x y : List Int) (hx : Dig x) (hy : Dig y) (hlx : x.length ≤ 1000000) (hly : y.length ≤ x.length) (hle : valL y ≤ valL x) (e : Env) (σ : St) (K : KT) (h : K (ints (limbs (valL x - valL y).toNat)) e σ) : ACall Tryz.prog 169 [ints x, ints y] e σ K := by
  refine ACall.pureW Tryz.func169 rfl Tryz.ntmps169 Tryz.results169 rfl rfl rfl ?_
  simp -implicitDefEqProofs (disch := (first | omega | (simp only [go_sem] <;> omega) | fail)) only [go_sem, simprocAttr, wrap_i64]
  refine Sat.loopW (fun (t : Nat) e' σ' => ∃ i L c, t = x.length - i ∧ i ≤ x.length ∧ e' 0 = sl intRow x ∧ e' 1 = sl intRow y ∧ e' 5 = .os σ.n 0 x.length ∧ e' 6 = .lit (.int .i64 c) ∧ e' 12 = sl intRow x ∧ e' 13 = .lit (.int .i64 x.length) ∧ e' 14 = .lit (.int .i64 (i : Nat)) ∧
    σ'.n = σ.n + 1 ∧ σ'.h σ.n = bl intRow 1 L ∧ Old σ σ' ∧ L.length = x.length ∧ Dig (L.take i) ∧ 0 ≤ c ∧ c ≤ 1 ∧ valL (L.take i) + 1000000000 ^ i * (-c) = valL (x.take i) + -valL (y.take i)) (fun t => t) x.length rfl ?_ ?_
  · simp -implicitDefEqProofs (disch := (first | omega | (simp only [go_sem] <;> omega) | fail)) only [go_sem, simprocAttr]
    refine ⟨0, List.replicate x.length 0, 0, ?_⟩
    refine ⟨by omega, by omega, rfl, rfl, by simp, by simp, by simp [Dig], by omega, by omega, by simp [valL]⟩
  · rintro t e1 σ1 ⟨i, L, c, rfl, hi, h0, h1, h5, h6, h20, h21, h22, hn, hB, hO, hL, hd, hc0, hc1, hv⟩
    have hvx := valL_take_succ x i
    have hvy := valL_take_succ y i
    by_cases hlt : i < x.length
    · have hlt' : (i : Int) < x.length := by omega
      have hxi := hx.getD i
      have hyi := hy.getD i
      have hdig : ∀ d k : Int, x.getD i 0 - c - y.getD i 0 = d - 1000000000 * k → 0 ≤ d → d < 1000000000 → 0 ≤ k → k ≤ 1 → Dig ((L.set i d).take (i + 1)) ∧ valL ((L.set i d).take (i + 1)) + 1000000000 ^ (i + 1) * (-k) = valL (x.take (i + 1)) + -valL (y.take (i + 1)) := by
        intro d k hdk hd0 hd1 hk0 hk1
        refine ⟨Dig_set (by omega) hd hd0 hd1, ?_⟩
        rw [valL_set (by omega), hvx, hvy, Int.pow_succ, Int.neg_add, ← Int.mul_neg]
        exact carry_step hv (by omega)
      have hy0 : ¬ i < y.length → y.getD i 0 = 0 := fun h => by simp [List.getD, List.getElem?_eq_none (Nat.le_of_not_lt h)]
      by_cases hneg : x.getD i 0 - c - y.getD i 0 < 0
      · obtain ⟨g1, g2⟩ := hdig (x.getD i 0 - c - y.getD i 0 + 1000000000) 1 (by omega) (by omega) (by omega) (by omega) (by omega)
        by_cases hiy : i < y.length
        · have hiy' : (i : Int) < y.length := by omega
          simp -implicitDefEqProofs (disch := (first | omega | (simp only [go_sem] <;> omega) | fail)) only [go_sem, simprocAttr, h0, h1, h5, h6, h20, h21, h22, hlt', hiy', hn, hB, hO, wrap_i64, getD_int, hneg]
          exact ⟨x.length - (i + 1), by omega, i + 1, L.set i _, 1, rfl, by omega, rfl, rfl, rfl, by simpa using hL, g1, by omega, by omega, g2⟩
        · have hiy' : ¬ (i : Int) < y.length := by omega
          rw [hy0 hiy, Int.sub_zero] at hneg g1 g2
          simp -implicitDefEqProofs (disch := (first | omega | (simp only [go_sem] <;> omega) | fail)) only [go_sem, simprocAttr, h0, h1, h5, h6, h20, h21, h22, hlt', hiy', hn, hB, hO, wrap_i64, getD_int, hneg]
          exact ⟨x.length - (i + 1), by omega, i + 1, L.set i _, 1, rfl, by omega, rfl, rfl, rfl, by simpa using hL, g1, by omega, by omega, g2⟩
      · obtain ⟨g1, g2⟩ := hdig (x.getD i 0 - c - y.getD i 0) 0 (by omega) (by omega) (by omega) (by omega) (by omega)
        by_cases hiy : i < y.length
        · have hiy' : (i : Int) < y.length := by omega
          simp -implicitDefEqProofs (disch := (first | omega | (simp only [go_sem] <;> omega) | fail)) only [go_sem, simprocAttr, h0, h1, h5, h6, h20, h21, h22, hlt', hiy', hn, hB, hO, wrap_i64, getD_int, hneg]
          exact ⟨x.length - (i + 1), by omega, i + 1, L.set i _, 0, rfl, by omega, rfl, rfl, rfl, by simpa using hL, g1, by omega, by omega, g2⟩
        · have hiy' : ¬ (i : Int) < y.length := by omega
          rw [hy0 hiy, Int.sub_zero] at hneg g1 g2
          simp -implicitDefEqProofs (disch := (first | omega | (simp only [go_sem] <;> omega) | fail)) only [go_sem, simprocAttr, h0, h1, h5, h6, h20, h21, h22, hlt', hiy', hn, hB, hO, wrap_i64, getD_int, hneg]
          exact ⟨x.length - (i + 1), by omega, i + 1, L.set i _, 0, rfl, by omega, rfl, rfl, rfl, by simpa using hL, g1, by omega, by omega, g2⟩
    · have hlt' : ¬ (i : Int) < x.length := by omega
      have hie : i = x.length := by omega
      subst hie
      simp -implicitDefEqProofs (disch := (first | omega | (simp only [go_sem] <;> omega) | fail)) only [go_sem, simprocAttr, h0, h1, h5, h6, h20, h21, h22, hlt', hn, hB, hO, wrap_i64]
      refine callF.plain ?_
      rw [List.take_of_length_le (Nat.le_refl x.length), List.take_of_length_le hly] at hv
      have hxx : valL (L.take x.length) = (valL x - valL y).toNat := by
        have h1 := valL_nonneg hd
        have h2 := valL_lt hd
        rw [List.length_take, Nat.min_eq_left (by omega)] at h2
        generalize (1000000000 : Int) ^ x.length = p at hv h2
        have : c = 0 ∨ c = 1 := by omega
        rcases this with rfl | rfl
        · omega
        · omega
      refine trim_num σ.n x.length L (valL x - valL y).toNat _ _ ?_ hB ?_ ?_ hd hxx _ fun hle hcut => ?_
      · omega
      · omega
      · omega
      · simp -implicitDefEqProofs (disch := (first | omega | (simp only [go_sem] <;> omega) | fail)) only [go_sem, simprocAttr, hB, hn, hO, hcut]
        exact h
end Go.Proofs.Qqz
namespace Go.Proofs.Qqz
open Go

theorem sl_nil_eq {α : Type} (f : α → List AV) : sl f [] = .ps [] := rfl

set_option maxRecDepth 100000 in
set_option maxHeartbeats 1000000 in
/-- The product, in a block that the caller may write to. -/
theorem times_own (x y : List Int) (hx : Dig x) (hy : Dig y) (hlx : x.length ≤ 1000000) (hly : y.length ≤ 1000000) (hx0 : ¬ x.length = 0) (hy0 : ¬ y.length = 0) (e : Env) (σ : St) (K : KT)
    (h : ∀ σ' L, σ'.n = σ.n + 1 → σ'.h σ.n = bl intRow 1 L → Old σ σ' → (limbs (valL x * valL y).toNat).length ≤ L.length → L.take (limbs (valL x * valL y).toNat).length = limbs (valL x * valL y).toNat → K (.os σ.n 0 (limbs (valL x * valL y).toNat).length) e σ') : ACall Tryz.prog 145 [ints x, ints y] e σ K := by
  refine ACall.bareW Tryz.func145 rfl Tryz.ntmps145 Tryz.results145 rfl rfl rfl ?_
  have hx0' : ¬ (x.length : Int) = 0 := by omega
  have hy0' : ¬ (y.length : Int) = 0 := by omega
  simp -implicitDefEqProofs (disch := (first | omega | (simp only [go_sem] <;> omega) | fail)) only [go_sem, simprocAttr, hx0', hy0', wrap_i64]
  refine Sat.loopW (fun (t : Nat) e' σ' => ∃ i L, t = x.length - i ∧ i ≤ x.length ∧ e' 0 = sl intRow x ∧ e' 1 = sl intRow y ∧ e' 5 = .os σ.n 0 (x.length + y.length) ∧ e' 26 = sl intRow x ∧ e' 27 = .lit (.int .i64 x.length) ∧ e' 28 = .lit (.int .i64 (i : Nat)) ∧
    σ'.n = σ.n + 1 ∧ σ'.h σ.n = bl intRow 1 L ∧ Old σ σ' ∧ L.length = x.length + y.length ∧ Dig L ∧ valL L = valL (x.take i) * valL y ∧ ∀ k, i + y.length ≤ k → L.getD k 0 = 0) (fun t => t) x.length rfl ?_ ?_
  · have e1 : ((x.length : Int) + y.length).toNat = x.length + y.length := by omega
    simp -implicitDefEqProofs (disch := (first | omega | (simp only [go_sem] <;> omega) | fail)) only [go_sem, simprocAttr, e1]
    refine ⟨0, List.replicate (x.length + y.length) 0, by omega, by omega, rfl, rfl, by simp, ?_, ?_, ?_⟩
    · intro z hz; rw [List.mem_replicate] at hz; omega
    · have : ∀ n, valL (List.replicate n 0) = 0 := by
        intro n; induction n with
        | zero => rfl
        | succ n ih => rw [List.replicate_succ, valL, ih]; rfl
      rw [this]; simp [valL]
    · intro k _
      simp only [List.getD, List.getElem?_replicate]; split <;> rfl
  · rintro t e1 σ1 ⟨i, L, rfl, hi, h0, h1, h5, h26, h27, h28, hn, hB, hO, hL, hd, hv, hz⟩
    have hvx := valL_take_succ x i
    by_cases hlt : i < x.length
    · have hlt' : (i : Int) < x.length := by omega
      have hxi := hx.getD i
      simp -implicitDefEqProofs (disch := (first | omega | (simp only [go_sem] <;> omega) | fail)) only [go_sem, simprocAttr, h0, h1, h5, h26, h27, h28, hlt', hn, hB, hO, wrap_i64, getD_int]
      refine Sat.loopW (fun (t : Nat) e' σ' => ∃ j L c, t = y.length - j ∧ j ≤ y.length ∧ e' 0 = sl intRow x ∧ e' 1 = sl intRow y ∧ e' 5 = .os σ.n 0 (x.length + y.length) ∧ e' 26 = sl intRow x ∧ e' 27 = .lit (.int .i64 x.length) ∧ e' 28 = .lit (.int .i64 (i : Nat)) ∧
        e' 6 = .lit (.int .i64 (i : Nat)) ∧ e' 7 = .lit (.int .i64 (x.getD i 0)) ∧ e' 8 = .lit (.int .i64 c) ∧ e' 33 = sl intRow y ∧ e' 34 = .lit (.int .i64 y.length) ∧ e' 35 = .lit (.int .i64 (j : Nat)) ∧
        σ'.n = σ.n + 1 ∧ σ'.h σ.n = bl intRow 1 L ∧ Old σ σ' ∧ L.length = x.length + y.length ∧ Dig L ∧ 0 ≤ c ∧ c < 1000000000 ∧ valL L + 1000000000 ^ (i + j) * c = valL (x.take i) * valL y + x.getD i 0 * (1000000000 ^ i * valL (y.take j)) ∧ ∀ k, i + y.length ≤ k → L.getD k 0 = 0) (fun t => t) y.length rfl ?_ ?_
      · simp -implicitDefEqProofs (disch := (first | omega | (simp only [go_sem] <;> omega) | fail)) only [go_sem, simprocAttr, h0, h1, h5, h26, h27, h28]
        exact ⟨0, L, 0, by omega, by omega, rfl, rfl, hn, hB, hO, hL, hd, by omega, by omega, by simp [valL, hv], hz⟩
      · clear hz hv hd hL hO hB hn h28 h27 h26 h5 h1 h0
        rintro t e2 σ2 ⟨j, L, c, rfl, hj, h0, h1, h5, h26, h27, h28, h6, h7, h8, h33, h34, h35, hn, hB, hO, hL, hd, hc0, hc1, hv, hz⟩
        by_cases hjt : j < y.length
        · have hjt' : (j : Int) < y.length := by omega
          have hyj := hy.getD j
          have hLij := hd.getD (i + j)
          have hm := mulDig hxi hyj
          have hij : ((i : Int) + (j : Int)).toNat = i + j := by omega
          simp -implicitDefEqProofs (disch := (first | omega | (simp only [go_sem] <;> omega) | fail)) only [go_sem, simprocAttr, h0, h1, h5, h26, h27, h28, h6, h7, h8, h33, h34, h35, hjt', hn, hB, hO, wrap_i64, getD_int, hij, tmod_pos, tdiv_pos]
          refine ⟨y.length - (j + 1), by omega, j + 1, L.set (i + j) ((L.getD (i + j) 0 + x.getD i 0 * y.getD j 0 + c) % 1000000000), (L.getD (i + j) 0 + x.getD i 0 * y.getD j 0 + c) / 1000000000, rfl, by omega, rfl, rfl, rfl, by simpa using hL, hd.set _ (by omega) (by omega), by omega, by omega, ?_, fun k hk => ?_⟩
          · rw [valL_set_at _ _ _ (by omega), valL_take_succ y j, ← Nat.add_assoc, Int.pow_succ]
            exact mul_step hv (by omega) (Int.pow_add _ _ _)
          · rw [getD_set_ne' (by omega)]; exact hz k hk
        · have hjt' : ¬ (j : Int) < y.length := by omega
          have hje : j = y.length := by omega
          subst hje
          have hij : ((i : Int) + (y.length : Int)).toNat = i + y.length := by omega
          have hlast := hz (i + y.length) (Nat.le_refl _)
          simp -implicitDefEqProofs (disch := (first | omega | (simp only [go_sem] <;> omega) | fail)) only [go_sem, simprocAttr, h0, h1, h5, h26, h27, h28, h6, h7, h8, h33, h34, h35, hjt', hn, hB, hO, wrap_i64, getD_int, hij]
          refine ⟨x.length - (i + 1), by omega, i + 1, L.set (i + y.length) c, rfl, by omega, rfl, rfl, by simpa using hL, hd.set _ hc0 hc1, ?_, fun k hk => ?_⟩
          · rw [valL_set_at _ _ _ (by omega), hvx, hlast]
            rw [List.take_of_length_le (Nat.le_refl y.length)] at hv
            exact mul_row hv
          · rw [getD_set_ne' (by omega)]; exact hz k (by omega)
    · have hlt' : ¬ (i : Int) < x.length := by omega
      have hie : i = x.length := by omega
      subst hie
      simp -implicitDefEqProofs (disch := (first | omega | (simp only [go_sem] <;> omega) | fail)) only [go_sem, simprocAttr, h0, h1, h5, h26, h27, h28, hlt', hn, hB, hO, wrap_i64]
      refine callF.plain ?_
      rw [List.take_of_length_le (Nat.le_refl x.length)] at hv
      have hLt : L.take (x.length + y.length) = L := List.take_of_length_le (by omega)
      refine trim_num σ.n (x.length + y.length) L (valL x * valL y).toNat _ _ (by omega) hB (by omega) (by omega) (by rw [hLt]; exact hd) ?_ _ fun hle hcut => ?_
      · rw [hLt, hv]
        have := Int.mul_nonneg (valL_nonneg hx) (valL_nonneg hy)
        omega
      · simp -implicitDefEqProofs (disch := (first | omega | (simp only [go_sem] <;> omega) | fail)) only [go_sem, simprocAttr]
        exact h σ1 L hn hB hO hle hcut


set_option maxRecDepth 100000 in
set_option maxHeartbeats 1000000 in
theorem times_ok (x y : List Int) (hx : Dig x) (hy : Dig y) (hlx : x.length ≤ 1000000) (hly : y.length ≤ 1000000) (e : Env) (σ : St) (K : KT) (h : K (ints (limbs (valL x * valL y).toNat)) e σ) : ACall Tryz.prog 145 [ints x, ints y] e σ K := by
  by_cases hx0 : x.length = 0
  · refine ACall.pureW Tryz.func145 rfl Tryz.ntmps145 Tryz.results145 rfl rfl rfl ?_
    have hx0' : (x.length : Int) = 0 := by omega
    have : x = [] := List.eq_nil_of_length_eq_zero hx0
    simp -implicitDefEqProofs (disch := (first | omega | (simp only [go_sem] <;> omega) | fail)) only [go_sem, simprocAttr, hx0']
    subst this
    simp only [valL, Int.zero_mul, Int.toNat_zero, limbs_zero] at h
    exact h
  have hx0' : ¬ (x.length : Int) = 0 := by omega
  by_cases hy0 : y.length = 0
  · refine ACall.pureW Tryz.func145 rfl Tryz.ntmps145 Tryz.results145 rfl rfl rfl ?_
    have hy0' : (y.length : Int) = 0 := by omega
    have : y = [] := List.eq_nil_of_length_eq_zero hy0
    simp -implicitDefEqProofs (disch := (first | omega | (simp only [go_sem] <;> omega) | fail)) only [go_sem, simprocAttr, hx0', hy0']
    subst this
    simp only [valL, Int.mul_zero, Int.toNat_zero, limbs_zero] at h
    exact h
  refine ACall.close (times_own x y hx hy hlx hly hx0 hy0 e σ _ fun σ' L hn hB hO hle hcut => ?_)
  simp -implicitDefEqProofs (disch := (first | omega | (simp only [go_sem] <;> omega) | fail)) only [go_sem, simprocAttr, hB, hn, hO, hcut]
  exact h

set_option maxRecDepth 100000 in
set_option maxHeartbeats 1000000 in
theorem overSmall_ok (x : List Int) (b : Int) (hx : Dig x) (hb : 0 < b) (hb2 : b ≤ 1000000000) (hlx : x.length ≤ 1000000) (e : Env) (σ : St) (K : KT)
    (h : K (.tup [ints (limbs (valL x / b).toNat), .lit (.int .i64 (valL x % b))]) e σ) : ACall Tryz.prog 176 [ints x, .lit (.int .i64 b)] e σ K := by
  refine ACall.pureW Tryz.func176 rfl Tryz.ntmps176 Tryz.results176 rfl rfl rfl ?_
  simp -implicitDefEqProofs (disch := (first | omega | (simp only [go_sem] <;> omega) | fail)) only [go_sem, simprocAttr, wrap_i64]
  refine Sat.loopW (fun (t : Nat) e' σ' => ∃ L r, e' 0 = sl intRow x ∧ e' 1 = .lit (.int .i64 b) ∧ e' 6 = .os σ.n 0 x.length ∧ e' 7 = .lit (.int .i64 r) ∧ e' 8 = .lit (.int .i64 ((t : Int) - 1)) ∧ t ≤ x.length ∧
    σ'.n = σ.n + 1 ∧ σ'.h σ.n = bl intRow 1 L ∧ Old σ σ' ∧ L.length = x.length ∧ Dig (L.drop t) ∧ 0 ≤ r ∧ r < b ∧ valL (x.drop t) = b * valL (L.drop t) + r) (fun t => t) x.length rfl ?_ ?_
  · simp -implicitDefEqProofs (disch := (first | omega | (simp only [go_sem] <;> omega) | fail)) only [go_sem, simprocAttr]
    refine ⟨List.replicate x.length 0, 0, rfl, by omega, rfl, by simp, ?_, by omega, hb, ?_⟩
    · rw [List.drop_of_length_le (by simp)]; exact Dig.nil
    · rw [List.drop_of_length_le (by simp), List.drop_of_length_le (by simp)]; simp [valL]
  · rintro t e1 σ1 ⟨L, r, h0, h1, h6, h7, h8, ht, hn, hB, hO, hL, hd, hr0, hr1, hv⟩
    by_cases hpos : 0 < t
    · obtain ⟨t, rfl⟩ : ∃ t', t = t' + 1 := ⟨t - 1, by omega⟩
      have hpos' : (0 : Int) ≤ ((t + 1 : Nat) : Int) - 1 := by omega
      have hxt := hx.getD t
      have hk : (((t + 1 : Nat) : Int) - 1).toNat = t := by omega
      obtain ⟨q0, q1, q2, q3, q4⟩ := div_step hb ⟨hr0, hr1⟩ hxt
      simp -implicitDefEqProofs (disch := (first | omega | (simp only [go_sem] <;> omega) | fail)) only [go_sem, simprocAttr, h0, h1, h6, h7, h8, hpos', hk, hn, hB, hO, wrap_i64, getD_int]
      refine Sat.drawn0 [9] mixed (by kernel_rfl) ?_
      simp -implicitDefEqProofs (disch := (first | omega | (simp only [go_sem] <;> omega) | fail)) only [go_sem, simprocAttr, h0, h1, h6, h7, h8, hpos', hk, hn, hB, hO, wrap_i64, getD_int, tdiv_pos', tmod_pos']
      refine ⟨t, by omega, L.set t ((r * 1000000000 + x.getD t 0) / b), _, rfl, ?_, by omega, rfl, by simpa using hL, ?_, q2, q3, ?_⟩
      · congr 2; omega
      · rw [drop_set (by omega), Dig.cons]; exact ⟨⟨q0, q1⟩, hd⟩
      · rw [drop_set (by omega), valL_drop (by omega), hv, valL]
        generalize (r * 1000000000 + x.getD t 0) / b = q at *
        generalize (r * 1000000000 + x.getD t 0) % b = s at *
        grind
    · have hpos' : ¬ (0 : Int) ≤ (t : Int) - 1 := by omega
      have : t = 0 := by omega
      subst this
      simp only [List.drop_zero] at hd hv
      have hq : valL x / b = valL L ∧ valL x % b = r := by
        rw [Int.ediv_emod_unique hb]
        exact ⟨by rw [hv]; omega, hr0, hr1⟩
      simp -implicitDefEqProofs (disch := (first | omega | (simp only [go_sem] <;> omega) | fail)) only [go_sem, simprocAttr, h0, h1, h6, h7, h8, hpos', hn, hB, hO, wrap_i64]
      refine callF.plain ?_
      have hLt : L.take x.length = L := List.take_of_length_le (by omega)
      have hnn := valL_nonneg hd
      rw [hq.1, hq.2] at h
      refine trim_num σ.n x.length L (valL L).toNat _ _ (by omega) hB (by omega) (by omega) (by rw [hLt]; exact hd) (by rw [hLt]; omega) _ fun hle hcut => ?_
      simp -implicitDefEqProofs (disch := (first | omega | (simp only [go_sem] <;> omega) | fail)) only [go_sem, simprocAttr, h7, hB, hn, hO, hcut]
      exact h
end Go.Proofs.Qqz
namespace Go.Proofs.Qqz
open Go

set_option maxRecDepth 100000 in
set_option maxHeartbeats 1000000 in
theorem take_ok (id : Nat) (A U v : List Int) (q : Int) (m : Nat) (hm : m = U.length) (hU : ∀ i, i < v.length → 0 ≤ U.getD i 0 ∧ U.getD i 0 < 1000000000) (htop : -1000000000 ≤ U.getD v.length 0 ∧ U.getD v.length 0 < 1000000000) (hv : Dig v) (hq : 0 ≤ q ∧ q < 1000000000) (hlen : v.length < U.length) (hA : A.length + U.length ≤ 1000000)
    (e : Env) (σ : St) (hid : id < σ.n) (hB : σ.h id = bl intRow 1 (A ++ U)) (K : KT)
    (h : ∀ D t, D.length = v.length → Dig D → valL D + 1000000000 ^ v.length * t = valL (U.take v.length) + 1000000000 ^ v.length * U.getD v.length 0 - q * valL v → K (.lit (.bool (decide (t < 0)))) e (σ.put id (bl intRow 1 (A ++ (D ++ t :: U.drop (v.length + 1)))))) :
    ACall Tryz.prog 177 [.os id A.length m, ints v, .lit (.int .i64 q)] e σ K := by
  subst hm
  refine ACall.bareW Tryz.func177 rfl Tryz.ntmps177 Tryz.results177 rfl rfl rfl ?_
  simp -implicitDefEqProofs (disch := (first | omega | (simp only [go_sem] <;> omega) | fail)) only [go_sem, simprocAttr]
  refine Sat.loopW (fun (t : Nat) e' σ' => ∃ i D c, t = v.length - i ∧ i ≤ v.length ∧ D.length = i ∧ e' 0 = .os id A.length U.length ∧ e' 1 = sl intRow v ∧ e' 2 = .lit (.int .i64 q) ∧ e' 7 = .lit (.int .i64 c) ∧ e' 11 = sl intRow v ∧ e' 12 = .lit (.int .i64 v.length) ∧ e' 13 = .lit (.int .i64 (i : Nat)) ∧
    σ' = σ.put id (bl intRow 1 (A ++ (D ++ U.drop i))) ∧ Dig D ∧ 0 ≤ c ∧ c < 1000000000 ∧ valL D + 1000000000 ^ i * (-c) = valL (U.take i) + -(q * valL (v.take i))) (fun t => t) v.length rfl ?_ ?_
  · simp -implicitDefEqProofs (disch := (first | omega | (simp only [go_sem] <;> omega) | fail)) only [go_sem, simprocAttr]
    exact ⟨0, [], 0, by omega, by omega, rfl, rfl, rfl, by simp [put_self _ _ _ hB], Dig.nil, by omega, by omega, by simp [valL]⟩
  · rintro t e1 σ1 ⟨i, D, c, rfl, hi, hD, h0, h1, h2, h7, h11, h12, h13, rfl, hd, hc0, hc1, hval⟩
    have hlenL : (A ++ (D ++ U.drop i)).length = A.length + U.length := by simp; omega
    by_cases hlt : i < v.length
    · have hlt' : (i : Int) < v.length := by omega
      have hvi := hv.getD i
      have hui := hU i hlt
      have hp := mulDig hq hvi
      have hget := getD_stretch (A := A) hD (show i < U.length by omega)
      have hset := fun w => set_stretch (A := A) hD (show i < U.length by omega) w
      have hfin : ∀ w k : Int, U.getD i 0 - q * v.getD i 0 - c = w - 1000000000 * k → 0 ≤ w → w < 1000000000 → Dig (D ++ [w]) ∧ valL (D ++ [w]) + 1000000000 ^ (i + 1) * (-k) = valL (U.take (i + 1)) + -(q * valL (v.take (i + 1))) := by
        intro w k hwk hw0 hw1
        refine ⟨Dig.append.2 ⟨hd, Dig.cons.2 ⟨⟨hw0, hw1⟩, Dig.nil⟩⟩, ?_⟩
        rw [valL_snoc hD, valL_take_succ U i, valL_take_succ v i, Int.pow_succ]
        generalize (1000000000 : Int) ^ i = p at *
        grind
      by_cases hneg : U.getD i 0 - q * v.getD i 0 - c < 0
      · have hk : 0 ≤ (999999999 - (U.getD i 0 - q * v.getD i 0 - c)) / 1000000000 ∧ (999999999 - (U.getD i 0 - q * v.getD i 0 - c)) / 1000000000 < 1000000000 := by omega
        have hw := hfin (U.getD i 0 - q * v.getD i 0 - c + (999999999 - (U.getD i 0 - q * v.getD i 0 - c)) / 1000000000 * 1000000000) ((999999999 - (U.getD i 0 - q * v.getD i 0 - c)) / 1000000000) (by omega) (by omega) (by omega)
        simp -implicitDefEqProofs (disch := (first | omega | (simp only [go_sem] <;> omega) | fail)) only [go_sem, simprocAttr, h0, h1, h2, h7, h11, h12, h13, hlt', wrap_i64, getD_int, hget, hset, hneg, tdiv_pos, hlenL]
        exact ⟨v.length - (i + 1), by omega, i + 1, D ++ [U.getD i 0 - q * v.getD i 0 - c + (999999999 - (U.getD i 0 - q * v.getD i 0 - c)) / 1000000000 * 1000000000], _, rfl, by omega, by simp [hD], rfl, rfl, rfl, hw.1, hk.1, hk.2, hw.2⟩
      · have hw := hfin (U.getD i 0 - q * v.getD i 0 - c) 0 (by omega) (by omega) (by omega)
        simp -implicitDefEqProofs (disch := (first | omega | (simp only [go_sem] <;> omega) | fail)) only [go_sem, simprocAttr, h0, h1, h2, h7, h11, h12, h13, hlt', wrap_i64, getD_int, hget, hset, hneg, tdiv_pos, hlenL]
        exact ⟨v.length - (i + 1), by omega, i + 1, D ++ [U.getD i 0 - q * v.getD i 0 - c], 0, rfl, by omega, by simp [hD], rfl, rfl, rfl, hw.1, by omega, by omega, hw.2⟩
    · have hlt' : ¬ (i : Int) < v.length := by omega
      have hie : i = v.length := by omega
      subst hie
      have hget := getD_stretch (A := A) hD hlen
      have hset := fun w => set_stretch (A := A) hD hlen w
      have hmid := fun w => getD_mid (A := A) (R := U.drop (v.length + 1)) hD w
      have hlen2 : ∀ w, (A ++ (D ++ [w] ++ U.drop (v.length + 1))).length = A.length + U.length := fun w => by simp; omega
      have hK := h D (U.getD v.length 0 - c) hD hd (by
        rw [List.take_of_length_le (Nat.le_refl v.length)] at hval
        rw [Int.mul_sub]
        rw [Int.mul_neg] at hval
        omega)
      simp -implicitDefEqProofs (disch := (first | omega | (simp only [go_sem] <;> omega) | fail)) only [go_sem, simprocAttr, h0, h1, h2, h7, h11, h12, h13, hlt', wrap_i64, getD_int, hget, hset, hmid, hlenL, hlen2]
      rw [stretch_mid]
      exact hK

set_option maxRecDepth 100000 in
set_option maxHeartbeats 1000000 in
theorem give_ok (id : Nat) (A U v : List Int) (m : Nat) (hm : m = U.length) (hU : ∀ i, i < v.length → 0 ≤ U.getD i 0 ∧ U.getD i 0 < 1000000000) (htop : -1000000000 ≤ U.getD v.length 0 ∧ U.getD v.length 0 < 1000000000) (hv : Dig v) (hlen : v.length < U.length) (hA : A.length + U.length ≤ 1000000)
    (e : Env) (σ : St) (hid : id < σ.n) (hB : σ.h id = bl intRow 1 (A ++ U)) (K : KT)
    (h : ∀ D t, D.length = v.length → Dig D → valL D + 1000000000 ^ v.length * t = valL (U.take v.length) + 1000000000 ^ v.length * U.getD v.length 0 + valL v → K (.tup []) e (σ.put id (bl intRow 1 (A ++ (D ++ t :: U.drop (v.length + 1)))))) :
    ACall Tryz.prog 178 [.os id A.length m, ints v] e σ K := by
  subst hm
  refine ACall.bareW Tryz.func178 rfl Tryz.ntmps178 Tryz.results178 rfl rfl rfl ?_
  simp -implicitDefEqProofs (disch := (first | omega | (simp only [go_sem] <;> omega) | fail)) only [go_sem, simprocAttr]
  refine Sat.loopW (fun (t : Nat) e' σ' => ∃ i D c, t = v.length - i ∧ i ≤ v.length ∧ D.length = i ∧ e' 0 = .os id A.length U.length ∧ e' 1 = sl intRow v ∧ e' 4 = .lit (.int .i64 c) ∧ e' 8 = sl intRow v ∧ e' 9 = .lit (.int .i64 v.length) ∧ e' 10 = .lit (.int .i64 (i : Nat)) ∧
    σ' = σ.put id (bl intRow 1 (A ++ (D ++ U.drop i))) ∧ Dig D ∧ 0 ≤ c ∧ c ≤ 1 ∧ valL D + 1000000000 ^ i * c = valL (U.take i) + valL (v.take i)) (fun t => t) v.length rfl ?_ ?_
  · simp -implicitDefEqProofs (disch := (first | omega | (simp only [go_sem] <;> omega) | fail)) only [go_sem, simprocAttr]
    exact ⟨0, [], 0, by omega, by omega, rfl, rfl, rfl, by simp [put_self _ _ _ hB], Dig.nil, by omega, by omega, by simp [valL]⟩
  · rintro t e1 σ1 ⟨i, D, c, rfl, hi, hD, h0, h1, h4, h8, h9, h10, rfl, hd, hc0, hc1, hval⟩
    have hlenL : (A ++ (D ++ U.drop i)).length = A.length + U.length := by simp; omega
    by_cases hlt : i < v.length
    · have hlt' : (i : Int) < v.length := by omega
      have hvi := hv.getD i
      have hui := hU i hlt
      have hget := getD_stretch (A := A) hD (show i < U.length by omega)
      have hset := fun w => set_stretch (A := A) hD (show i < U.length by omega) w
      simp -implicitDefEqProofs (disch := (first | omega | (simp only [go_sem] <;> omega) | fail)) only [go_sem, simprocAttr, h0, h1, h4, h8, h9, h10, hlt', wrap_i64, getD_int, hget, hset, tdiv_pos, tmod_pos, hlenL]
      refine ⟨v.length - (i + 1), by omega, i + 1, D ++ [(U.getD i 0 + v.getD i 0 + c) % 1000000000], _, rfl, by omega, by simp [hD], rfl, rfl, rfl, Dig.append.2 ⟨hd, Dig.cons.2 ⟨⟨by omega, by omega⟩, Dig.nil⟩⟩, ?_, ?_, ?_⟩
      · omega
      · omega
      · rw [valL_snoc hD, valL_take_succ U i, valL_take_succ v i, Int.pow_succ]
        exact carry_step hval (by omega)
    · have hlt' : ¬ (i : Int) < v.length := by omega
      have hie : i = v.length := by omega
      subst hie
      have hget := getD_stretch (A := A) hD hlen
      have hset := fun w => set_stretch (A := A) hD hlen w
      have hK := h D (U.getD v.length 0 + c) hD hd (by
        rw [List.take_of_length_le (Nat.le_refl v.length)] at hval
        rw [Int.mul_add]
        omega)
      simp -implicitDefEqProofs (disch := (first | omega | (simp only [go_sem] <;> omega) | fail)) only [go_sem, simprocAttr, h0, h1, h4, h8, h9, h10, hlt', wrap_i64, getD_int, hget, hset, hlenL]
      rw [stretch_mid]
      exact hK
end Go.Proofs.Qqz
