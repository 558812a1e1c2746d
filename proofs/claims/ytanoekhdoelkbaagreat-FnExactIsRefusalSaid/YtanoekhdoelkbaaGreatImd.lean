/- Contracts: the two steps of long division that write into the remainder. -/
import Derived.Test.YtanoekhdoelkbaaGreatImc
set_option linter.unusedSimpArgs false
set_option linter.unusedVariables false
namespace Go.Proofs.Qqz
open Go

set_option maxRecDepth 100000 in
set_option maxHeartbeats 1000000 in
theorem take_ok (id : Nat) (A U v : List Int) (q : Int) (m : Nat) (hm : m = U.length) (hU : ∀ i, i < v.length → 0 ≤ U.getD i 0 ∧ U.getD i 0 < 1000000000) (htop : -1000000000 ≤ U.getD v.length 0 ∧ U.getD v.length 0 < 1000000000) (hv : Dig v) (hq : 0 ≤ q ∧ q < 1000000000) (hlen : v.length < U.length) (hA : A.length + U.length ≤ 1000000)
    (e : Env) (σ : St) (hid : id < σ.n) (hB : σ.h id = bl intRow 1 (A ++ U)) (K : KT)
    (h : ∀ D t, D.length = v.length → Dig D → valL D + 1000000000 ^ v.length * t = valL (U.take v.length) + 1000000000 ^ v.length * U.getD v.length 0 - q * valL v → K (.lit (.bool (decide (t < 0)))) e (σ.put id (bl intRow 1 (A ++ (D ++ t :: U.drop (v.length + 1)))))) :
    ACall Tryz.prog 177 [.os id A.length m, ints v, .lit (.int .i64 q)] e σ K := by
  subst hm
  refine ACall.bareW Tryz.func177 rfl Tryz.ntmps177 Tryz.results177 rfl rfl rfl ?_
  simp -implicitDefEqProofs (disch := (first | omega | (simp only [go_sem] <;> omega) | fail)) only [go_sem, Nat.reduceEqDiff, ↓reduceIte, Nat.reduceAdd, Nat.reduceLT, Nat.reduceLeDiff, Nat.reduceSub, Nat.reduceMul, Int.reduceLT, Int.reduceLE, Int.reduceToNat, Int.reduceNeg, Int.reduceEq, Int.reduceAdd, Int.reduceSub, Int.reduceMul, reduceCtorEq]
  refine Sat.loopW (fun (t : Nat) e' σ' => ∃ i D c, t = v.length - i ∧ i ≤ v.length ∧ D.length = i ∧ e' 0 = .os id A.length U.length ∧ e' 1 = sl intRow v ∧ e' 2 = .lit (.int .i64 q) ∧ e' 7 = .lit (.int .i64 c) ∧ e' 11 = sl intRow v ∧ e' 12 = .lit (.int .i64 v.length) ∧ e' 13 = .lit (.int .i64 (i : Nat)) ∧
    σ' = σ.put id (bl intRow 1 (A ++ (D ++ U.drop i))) ∧ Dig D ∧ 0 ≤ c ∧ c < 1000000000 ∧ valL D + 1000000000 ^ i * (-c) = valL (U.take i) + -(q * valL (v.take i))) (fun t => t) v.length rfl ?_ ?_
  · simp -implicitDefEqProofs (disch := (first | omega | (simp only [go_sem] <;> omega) | fail)) only [go_sem, Nat.reduceEqDiff, ↓reduceIte, Nat.reduceAdd, Nat.reduceLT, Nat.reduceLeDiff, Nat.reduceSub, Nat.reduceMul, Int.reduceLT, Int.reduceLE, Int.reduceToNat, Int.reduceNeg, Int.reduceEq, Int.reduceAdd, Int.reduceSub, Int.reduceMul, reduceCtorEq]
    exact ⟨0, [], 0, by omega, by omega, rfl, rfl, rfl, by simp [put_self _ _ _ hB], Dig.nil, by omega, by omega, by simp [valL]⟩
  · rintro t e1 σ1 ⟨i, D, c, rfl, hi, hD, h0, h1, h2, h7, h11, h12, h13, rfl, hd, hc0, hc1, hval⟩
    have hlenL : (A ++ (D ++ U.drop i)).length = A.length + U.length := by simp; omega
    by_cases hlt : i < v.length
    · have hlt' : (i : Int) < v.length := by omega
      have hvi := hv.getD i
      have hui := hU i hlt
      have hp := mulDig hq hvi
      have hget := getD_stretch (A := A) hD (show i < U.length by omega)
      have hset := fun w => set_stretch (A := A) hD (show i < U.length by omega) w
      have hfin : ∀ w k : Int, U.getD i 0 - q * v.getD i 0 - c = w - 1000000000 * k → 0 ≤ w → w < 1000000000 → Dig (D ++ [w]) ∧ valL (D ++ [w]) + 1000000000 ^ (i + 1) * (-k) = valL (U.take (i + 1)) + -(q * valL (v.take (i + 1))) := by
        intro w k hwk hw0 hw1
        refine ⟨Dig.append.2 ⟨hd, Dig.cons.2 ⟨⟨hw0, hw1⟩, Dig.nil⟩⟩, ?_⟩
        rw [valL_snoc hD, valL_take_succ U i, valL_take_succ v i, Int.pow_succ]
        generalize (1000000000 : Int) ^ i = p at *
        grind
      by_cases hneg : U.getD i 0 - q * v.getD i 0 - c < 0
      · have hk : 0 ≤ (999999999 - (U.getD i 0 - q * v.getD i 0 - c)) / 1000000000 ∧ (999999999 - (U.getD i 0 - q * v.getD i 0 - c)) / 1000000000 < 1000000000 := by omega
        have hw := hfin (U.getD i 0 - q * v.getD i 0 - c + (999999999 - (U.getD i 0 - q * v.getD i 0 - c)) / 1000000000 * 1000000000) ((999999999 - (U.getD i 0 - q * v.getD i 0 - c)) / 1000000000) (by omega) (by omega) (by omega)
        simp -implicitDefEqProofs (disch := (first | omega | (simp only [go_sem] <;> omega) | fail)) only [go_sem, Nat.reduceEqDiff, ↓reduceIte, Nat.reduceAdd, Nat.reduceLT, Nat.reduceLeDiff, Nat.reduceSub, Nat.reduceMul, Int.reduceLT, Int.reduceLE, Int.reduceToNat, Int.reduceNeg, Int.reduceEq, Int.reduceAdd, Int.reduceSub, Int.reduceMul, reduceCtorEq, h0, h1, h2, h7, h11, h12, h13, hlt', wrap_i64, getD_int, hget, hset, hneg, tdiv_pos, hlenL]
        exact ⟨v.length - (i + 1), by omega, i + 1, D ++ [U.getD i 0 - q * v.getD i 0 - c + (999999999 - (U.getD i 0 - q * v.getD i 0 - c)) / 1000000000 * 1000000000], _, rfl, by omega, by simp [hD], rfl, rfl, rfl, hw.1, hk.1, hk.2, hw.2⟩
      · have hw := hfin (U.getD i 0 - q * v.getD i 0 - c) 0 (by omega) (by omega) (by omega)
        simp -implicitDefEqProofs (disch := (first | omega | (simp only [go_sem] <;> omega) | fail)) only [go_sem, Nat.reduceEqDiff, ↓reduceIte, Nat.reduceAdd, Nat.reduceLT, Nat.reduceLeDiff, Nat.reduceSub, Nat.reduceMul, Int.reduceLT, Int.reduceLE, Int.reduceToNat, Int.reduceNeg, Int.reduceEq, Int.reduceAdd, Int.reduceSub, Int.reduceMul, reduceCtorEq, h0, h1, h2, h7, h11, h12, h13, hlt', wrap_i64, getD_int, hget, hset, hneg, tdiv_pos, hlenL]
        exact ⟨v.length - (i + 1), by omega, i + 1, D ++ [U.getD i 0 - q * v.getD i 0 - c], 0, rfl, by omega, by simp [hD], rfl, rfl, rfl, hw.1, by omega, by omega, hw.2⟩
    · have hlt' : ¬ (i : Int) < v.length := by omega
      have hie : i = v.length := by omega
      subst hie
      have hget := getD_stretch (A := A) hD hlen
      have hset := fun w => set_stretch (A := A) hD hlen w
      have hmid := fun w => getD_mid (A := A) (R := U.drop (v.length + 1)) hD w
      have hlen2 : ∀ w, (A ++ (D ++ [w] ++ U.drop (v.length + 1))).length = A.length + U.length := fun w => by simp; omega
      have hK := h D (U.getD v.length 0 - c) hD hd (by
        rw [List.take_of_length_le (Nat.le_refl v.length)] at hval
        rw [Int.mul_sub]
        rw [Int.mul_neg] at hval
        omega)
      simp -implicitDefEqProofs (disch := (first | omega | (simp only [go_sem] <;> omega) | fail)) only [go_sem, Nat.reduceEqDiff, ↓reduceIte, Nat.reduceAdd, Nat.reduceLT, Nat.reduceLeDiff, Nat.reduceSub, Nat.reduceMul, Int.reduceLT, Int.reduceLE, Int.reduceToNat, Int.reduceNeg, Int.reduceEq, Int.reduceAdd, Int.reduceSub, Int.reduceMul, reduceCtorEq, h0, h1, h2, h7, h11, h12, h13, hlt', wrap_i64, getD_int, hget, hset, hmid, hlenL, hlen2]
      rw [stretch_mid]
      exact hK

set_option maxRecDepth 100000 in
set_option maxHeartbeats 1000000 in
theorem give_ok (id : Nat) (A U v : List Int) (m : Nat) (hm : m = U.length) (hU : ∀ i, i < v.length → 0 ≤ U.getD i 0 ∧ U.getD i 0 < 1000000000) (htop : -1000000000 ≤ U.getD v.length 0 ∧ U.getD v.length 0 < 1000000000) (hv : Dig v) (hlen : v.length < U.length) (hA : A.length + U.length ≤ 1000000)
    (e : Env) (σ : St) (hid : id < σ.n) (hB : σ.h id = bl intRow 1 (A ++ U)) (K : KT)
    (h : ∀ D t, D.length = v.length → Dig D → valL D + 1000000000 ^ v.length * t = valL (U.take v.length) + 1000000000 ^ v.length * U.getD v.length 0 + valL v → K (.tup []) e (σ.put id (bl intRow 1 (A ++ (D ++ t :: U.drop (v.length + 1)))))) :
    ACall Tryz.prog 178 [.os id A.length m, ints v] e σ K := by
  subst hm
  refine ACall.bareW Tryz.func178 rfl Tryz.ntmps178 Tryz.results178 rfl rfl rfl ?_
  simp -implicitDefEqProofs (disch := (first | omega | (simp only [go_sem] <;> omega) | fail)) only [go_sem, Nat.reduceEqDiff, ↓reduceIte, Nat.reduceAdd, Nat.reduceLT, Nat.reduceLeDiff, Nat.reduceSub, Nat.reduceMul, Int.reduceLT, Int.reduceLE, Int.reduceToNat, Int.reduceNeg, Int.reduceEq, Int.reduceAdd, Int.reduceSub, Int.reduceMul, reduceCtorEq]
  refine Sat.loopW (fun (t : Nat) e' σ' => ∃ i D c, t = v.length - i ∧ i ≤ v.length ∧ D.length = i ∧ e' 0 = .os id A.length U.length ∧ e' 1 = sl intRow v ∧ e' 4 = .lit (.int .i64 c) ∧ e' 8 = sl intRow v ∧ e' 9 = .lit (.int .i64 v.length) ∧ e' 10 = .lit (.int .i64 (i : Nat)) ∧
    σ' = σ.put id (bl intRow 1 (A ++ (D ++ U.drop i))) ∧ Dig D ∧ 0 ≤ c ∧ c ≤ 1 ∧ valL D + 1000000000 ^ i * c = valL (U.take i) + valL (v.take i)) (fun t => t) v.length rfl ?_ ?_
  · simp -implicitDefEqProofs (disch := (first | omega | (simp only [go_sem] <;> omega) | fail)) only [go_sem, Nat.reduceEqDiff, ↓reduceIte, Nat.reduceAdd, Nat.reduceLT, Nat.reduceLeDiff, Nat.reduceSub, Nat.reduceMul, Int.reduceLT, Int.reduceLE, Int.reduceToNat, Int.reduceNeg, Int.reduceEq, Int.reduceAdd, Int.reduceSub, Int.reduceMul, reduceCtorEq]
    exact ⟨0, [], 0, by omega, by omega, rfl, rfl, rfl, by simp [put_self _ _ _ hB], Dig.nil, by omega, by omega, by simp [valL]⟩
  · rintro t e1 σ1 ⟨i, D, c, rfl, hi, hD, h0, h1, h4, h8, h9, h10, rfl, hd, hc0, hc1, hval⟩
    have hlenL : (A ++ (D ++ U.drop i)).length = A.length + U.length := by simp; omega
    by_cases hlt : i < v.length
    · have hlt' : (i : Int) < v.length := by omega
      have hvi := hv.getD i
      have hui := hU i hlt
      have hget := getD_stretch (A := A) hD (show i < U.length by omega)
      have hset := fun w => set_stretch (A := A) hD (show i < U.length by omega) w
      simp -implicitDefEqProofs (disch := (first | omega | (simp only [go_sem] <;> omega) | fail)) only [go_sem, Nat.reduceEqDiff, ↓reduceIte, Nat.reduceAdd, Nat.reduceLT, Nat.reduceLeDiff, Nat.reduceSub, Nat.reduceMul, Int.reduceLT, Int.reduceLE, Int.reduceToNat, Int.reduceNeg, Int.reduceEq, Int.reduceAdd, Int.reduceSub, Int.reduceMul, reduceCtorEq, h0, h1, h4, h8, h9, h10, hlt', wrap_i64, getD_int, hget, hset, tdiv_pos, tmod_pos, hlenL]
      refine ⟨v.length - (i + 1), by omega, i + 1, D ++ [(U.getD i 0 + v.getD i 0 + c) % 1000000000], _, rfl, by omega, by simp [hD], rfl, rfl, rfl, Dig.append.2 ⟨hd, Dig.cons.2 ⟨⟨by omega, by omega⟩, Dig.nil⟩⟩, ?_, ?_, ?_⟩
      · omega
      · omega
      · rw [valL_snoc hD, valL_take_succ U i, valL_take_succ v i, Int.pow_succ]
        exact carry_step hval (by omega)
    · have hlt' : ¬ (i : Int) < v.length := by omega
      have hie : i = v.length := by omega
      subst hie
      have hget := getD_stretch (A := A) hD hlen
      have hset := fun w => set_stretch (A := A) hD hlen w
      have hK := h D (U.getD v.length 0 + c) hD hd (by
        rw [List.take_of_length_le (Nat.le_refl v.length)] at hval
        rw [Int.mul_add]
        omega)
      simp -implicitDefEqProofs (disch := (first | omega | (simp only [go_sem] <;> omega) | fail)) only [go_sem, Nat.reduceEqDiff, ↓reduceIte, Nat.reduceAdd, Nat.reduceLT, Nat.reduceLeDiff, Nat.reduceSub, Nat.reduceMul, Int.reduceLT, Int.reduceLE, Int.reduceToNat, Int.reduceNeg, Int.reduceEq, Int.reduceAdd, Int.reduceSub, Int.reduceMul, reduceCtorEq, h0, h1, h4, h8, h9, h10, hlt', wrap_i64, getD_int, hget, hset, hlenL]
      rw [stretch_mid]
      exact hK
end Go.Proofs.Qqz
