/- Contracts: the program's fractions. -/
import Derived.Test.YtanoekhdoelkbaaGreatImf
set_option linter.unusedSimpArgs false
set_option linter.unusedVariables false
namespace Go.Proofs.Qqz
open Go

/-- A fraction behind a pointer. -/
def ratP (n : Int) (d : Nat) : AV := .pa [.lit (.bool (decide (n < 0))), ints (limbs n.natAbs), ints (limbs d)] 0

set_option maxRecDepth 100000 in
set_option maxHeartbeats 1000000 in
theorem scaled_ok (n : Int) (d k : Nat) (hln : (limbs n.natAbs).length ≤ 100000) (hlk : (limbs k).length ≤ 100000) (e : Env) (σ : St) (K : KT) (h : K (bigA (n * k)) e σ) : ACall Tryz.prog 143 [ratP n d, ints (limbs k)] e σ K := by
  unfold ratP
  refine ACall.pureW Tryz.func143 rfl Tryz.ntmps143 Tryz.results143 rfl rfl rfl ?_
  simp -implicitDefEqProofs (disch := (first | omega | (simp only [go_sem] <;> omega) | fail)) only [go_sem, simprocAttr]
  refine Sat.drawn0 [13] mixed (by kernel_rfl) ?_
  simp -implicitDefEqProofs (disch := (first | omega | (simp only [go_sem] <;> omega) | fail)) only [go_sem, simprocAttr]
  refine exQ.intro (times_nat n.natAbs k hln hlk _ _ _ ⟨rfl, rfl⟩) ?_
  simp -implicitDefEqProofs (disch := (first | omega | (simp only [go_sem] <;> omega) | fail)) only [go_sem, simprocAttr]
  refine exQ.intro (signed_ok _ _ _ _ _ ⟨rfl, rfl⟩) ?_
  rw [sgn_scale]
  unfold bigA at h ⊢
  simp -implicitDefEqProofs (disch := (first | omega | (simp only [go_sem] <;> omega) | fail)) only [go_sem, simprocAttr]
  exact h

theorem low_zero {d : Nat} (hd : 0 < d) : lowN 0 d = 0 ∧ lowD 0 d = 1 := by
  constructor
  · simp [lowN, sgn]
  · simp [lowD, Nat.div_self hd]
theorem low_one {n : Int} {d : Nat} (h : Nat.gcd n.natAbs d = 1) : lowN n d = n ∧ lowD n d = d := by
  simp [lowN, lowD, h, sgn_of]
theorem cmpZ_zero {a b : Int} : cmpZ a b = 0 ↔ a = b := by
  unfold cmpZ; split
  · omega
  · split <;> omega

set_option maxRecDepth 100000 in
set_option maxHeartbeats 1000000 in
theorem lowest_ok (n : Int) (d : Nat) (hd : 0 < d) (hln : (limbs n.natAbs).length ≤ 100000) (hld : (limbs d).length ≤ 100000) (e : Env) (σ : St) (K : KT) (h : K (ratP (lowN n d) (lowD n d)) e σ) : ACall Tryz.prog 142 [bigA n, ints (limbs d)] e σ K := by
  unfold bigA
  refine ACall.nlP ?_
  refine ACall.pureW Tryz.func142 rfl Tryz.ntmps142 Tryz.results142 rfl rfl rfl ?_
  by_cases h0 : n = 0
  · subst h0
    have hz : ((limbs 0).length : Int) = 0 := by simp [limbs_zero]
    rw [(low_zero hd).1, (low_zero hd).2] at h
    simp -implicitDefEqProofs (disch := (first | omega | (simp only [go_sem] <;> omega) | fail)) only [go_sem, simprocAttr, hz]
    unfold ratP at h
    rw [limbs_1] at h
    simp [limbs_zero] at h
    exact h
  · have hz : ¬ ((limbs n.natAbs).length : Int) = 0 := by have := limbs_len_pos (n := n.natAbs) (by omega); omega
    simp -implicitDefEqProofs (disch := (first | omega | (simp only [go_sem] <;> omega) | fail)) only [go_sem, simprocAttr, hz]
    refine callF.plain (divisor_ok n.natAbs d hln hld _ _ _ ?_)
    simp -implicitDefEqProofs (disch := (first | omega | (simp only [go_sem] <;> omega) | fail)) only [go_sem, simprocAttr]
    refine callF.fz [σ.n + 1] ?_
    have hlg : (limbs (Nat.gcd n.natAbs d)).length ≤ 100000 := len_le (Nat.gcd_le_right _ hd) hld
    refine ACall.eq_args (l' := [ints (limbs (Nat.gcd n.natAbs d)), ints (limbs 1)]) (by rw [limbs_1]; simp -implicitDefEqProofs (disch := (first | omega | (simp only [go_sem] <;> omega) | fail)) only [go_sem, simprocAttr]; rfl) ?_
    refine cmp_nat _ 1 (by omega) (by rw [limbs_1]; simp) _ _ _ ?_
    have hg0 := Nat.gcd_pos_of_pos_right n.natAbs hd
    by_cases hg : Nat.gcd n.natAbs d = 1
    · have hc : cmpZ (Nat.gcd n.natAbs d : Nat) 1 = 0 := by rw [cmpZ_zero]; omega
      rw [(low_one hg).1, (low_one hg).2] at h
      simp -implicitDefEqProofs (disch := (first | omega | (simp only [go_sem] <;> omega) | fail)) only [go_sem, simprocAttr, hc]
      exact h
    · have hc : ¬ cmpZ (Nat.gcd n.natAbs d : Nat) 1 = 0 := by rw [cmpZ_zero]; omega
      simp -implicitDefEqProofs (disch := (first | omega | (simp only [go_sem] <;> omega) | fail)) only [go_sem, simprocAttr, hc]
      refine callF.plain (over_nat n.natAbs (Nat.gcd n.natAbs d) hg0 hln hlg _ _ _ ?_)
      simp -implicitDefEqProofs (disch := (first | omega | (simp only [go_sem] <;> omega) | fail)) only [go_sem, simprocAttr]
      refine callF.plain (over_nat d (Nat.gcd n.natAbs d) hg0 hld hlg _ _ _ ?_)
      simp -implicitDefEqProofs (disch := (first | omega | (simp only [go_sem] <;> omega) | fail)) only [go_sem, simprocAttr]
      refine callF.plain (signed_ok _ _ _ _ _ ?_)
      unfold bigA
      simp -implicitDefEqProofs (disch := (first | omega | (simp only [go_sem] <;> omega) | fail)) only [go_sem, simprocAttr]
      exact h

set_option maxRecDepth 100000 in
set_option maxHeartbeats 1000000 in
theorem ratPlus_ok (a c : Int) (b d : Nat) (hb : 0 < b) (hd : 0 < d) (la : (limbs a.natAbs).length ≤ 10000) (lb : (limbs b).length ≤ 10000) (lc : (limbs c.natAbs).length ≤ 10000) (ld : (limbs d).length ≤ 10000) (e : Env) (σ : St) (K : KT)
    (h : K (ratP (lowN (a * d + c * b) (b * d)) (lowD (a * d + c * b) (b * d))) e σ) : ACall Tryz.prog 115 [ratP a b, ratP c d] e σ K := by
  unfold ratP
  refine ACall.pureW Tryz.func115 rfl Tryz.ntmps115 Tryz.results115 rfl rfl rfl ?_
  have l1 : (limbs (a * d).natAbs).length ≤ 20000 := by rw [Int.natAbs_mul]; exact len_mul la ld
  have l2 : (limbs (c * b).natAbs).length ≤ 20000 := by rw [Int.natAbs_mul]; exact len_mul lc lb
  have l3 : (limbs (b * d)).length ≤ 20000 := len_mul lb ld
  have l4 : (limbs (a * d + c * b).natAbs).length ≤ 20001 := len_le (by omega) (len_add l1 l2)
  simp -implicitDefEqProofs (disch := (first | omega | (simp only [go_sem] <;> omega) | fail)) only [go_sem, simprocAttr]
  refine Sat.drawn0 [] mixed (by kernel_rfl) ?_
  simp -implicitDefEqProofs (disch := (first | omega | (simp only [go_sem] <;> omega) | fail)) only [go_sem, simprocAttr]
  refine exQ.intro (scaled_ok a b d (by omega) (by omega) _ _ _ ⟨rfl, rfl⟩) ?_
  try simp -implicitDefEqProofs (disch := (first | omega | (simp only [go_sem] <;> omega) | fail)) only [go_sem, simprocAttr]
  refine exQ.intro (scaled_ok c d b (by omega) (by omega) _ _ _ ⟨rfl, rfl⟩) ?_
  try simp -implicitDefEqProofs (disch := (first | omega | (simp only [go_sem] <;> omega) | fail)) only [go_sem, simprocAttr]
  refine exQ.intro (bigPlus_ok (a * d) (c * b) (by omega) (by omega) _ _ _ ⟨rfl, rfl⟩) ?_
  try simp -implicitDefEqProofs (disch := (first | omega | (simp only [go_sem] <;> omega) | fail)) only [go_sem, simprocAttr]
  refine exQ.intro (times_nat b d (by omega) (by omega) _ _ _ ⟨rfl, rfl⟩) ?_
  refine exQ.intro (lowest_ok (a * d + c * b) (b * d) (Nat.mul_pos hb hd) (by omega) (by omega) _ _ _ ⟨rfl, rfl⟩) ?_
  unfold ratP at h ⊢
  simp -implicitDefEqProofs (disch := (first | omega | (simp only [go_sem] <;> omega) | fail)) only [go_sem, simprocAttr]
  exact h

set_option maxRecDepth 100000 in
set_option maxHeartbeats 1000000 in
theorem ratTimes_ok (a c : Int) (b d : Nat) (hb : 0 < b) (hd : 0 < d) (la : (limbs a.natAbs).length ≤ 10000) (lb : (limbs b).length ≤ 10000) (lc : (limbs c.natAbs).length ≤ 10000) (ld : (limbs d).length ≤ 10000) (e : Env) (σ : St) (K : KT)
    (h : K (ratP (lowN (a * c) (b * d)) (lowD (a * c) (b * d))) e σ) : ACall Tryz.prog 119 [ratP a b, ratP c d] e σ K := by
  unfold ratP
  refine ACall.pureW Tryz.func119 rfl Tryz.ntmps119 Tryz.results119 rfl rfl rfl ?_
  have l1 : (limbs (a * c).natAbs).length ≤ 20000 := by rw [Int.natAbs_mul]; exact len_mul la lc
  have l3 : (limbs (b * d)).length ≤ 20000 := len_mul lb ld
  simp -implicitDefEqProofs (disch := (first | omega | (simp only [go_sem] <;> omega) | fail)) only [go_sem, simprocAttr]
  refine Sat.drawn0 [] mixed (by kernel_rfl) ?_
  simp -implicitDefEqProofs (disch := (first | omega | (simp only [go_sem] <;> omega) | fail)) only [go_sem, simprocAttr]
  refine exQ.intro (bigTimes_ok a c (by omega) (by omega) _ _ _ ⟨rfl, rfl⟩) ?_
  try simp -implicitDefEqProofs (disch := (first | omega | (simp only [go_sem] <;> omega) | fail)) only [go_sem, simprocAttr]
  refine exQ.intro (times_nat b d (by omega) (by omega) _ _ _ ⟨rfl, rfl⟩) ?_
  try simp -implicitDefEqProofs (disch := (first | omega | (simp only [go_sem] <;> omega) | fail)) only [go_sem, simprocAttr]
  refine exQ.intro (lowest_ok (a * c) (b * d) (Nat.mul_pos hb hd) (by omega) (by omega) _ _ _ ⟨rfl, rfl⟩) ?_
  unfold ratP at h ⊢
  simp -implicitDefEqProofs (disch := (first | omega | (simp only [go_sem] <;> omega) | fail)) only [go_sem, simprocAttr]
  exact h

set_option maxRecDepth 100000 in
set_option maxHeartbeats 1000000 in
theorem bigMinus_ok (a b : Int) (hla : (limbs a.natAbs).length ≤ 100000) (hlb : (limbs b.natAbs).length ≤ 100000) (e : Env) (σ : St) (K : KT) (h : K (bigA (a - b)) e σ) : ACall Tryz.prog 179 [bigA a, bigA b] e σ K := by
  unfold bigA
  refine ACall.pureW Tryz.func179 rfl Tryz.ntmps179 Tryz.results179 rfl rfl rfl ?_
  simp -implicitDefEqProofs (disch := (first | omega | (simp only [go_sem] <;> omega) | fail)) only [go_sem, simprocAttr]
  refine Sat.drawn0 [4] mixed (by kernel_rfl) ?_
  simp -implicitDefEqProofs (disch := (first | omega | (simp only [go_sem] <;> omega) | fail)) only [go_sem, simprocAttr]
  refine exQ.intro (opposite_ok b _ _ _ ⟨rfl, rfl⟩) ?_
  try simp -implicitDefEqProofs (disch := (first | omega | (simp only [go_sem] <;> omega) | fail)) only [go_sem, simprocAttr]
  refine exQ.intro (bigPlus_ok a (-b) (by omega) (by rw [Int.natAbs_neg]; omega) _ _ _ ⟨rfl, rfl⟩) ?_
  rw [← Int.sub_eq_add_neg]
  unfold bigA at h ⊢
  simp -implicitDefEqProofs (disch := (first | omega | (simp only [go_sem] <;> omega) | fail)) only [go_sem, simprocAttr]
  exact h

set_option maxRecDepth 100000 in
set_option maxHeartbeats 1000000 in
theorem ratMinus_ok (a c : Int) (b d : Nat) (hb : 0 < b) (hd : 0 < d) (la : (limbs a.natAbs).length ≤ 10000) (lb : (limbs b).length ≤ 10000) (lc : (limbs c.natAbs).length ≤ 10000) (ld : (limbs d).length ≤ 10000) (e : Env) (σ : St) (K : KT)
    (h : K (ratP (lowN (a * d - c * b) (b * d)) (lowD (a * d - c * b) (b * d))) e σ) : ACall Tryz.prog 171 [ratP a b, ratP c d] e σ K := by
  unfold ratP
  refine ACall.pureW Tryz.func171 rfl Tryz.ntmps171 Tryz.results171 rfl rfl rfl ?_
  have l1 : (limbs (a * d).natAbs).length ≤ 20000 := by rw [Int.natAbs_mul]; exact len_mul la ld
  have l2 : (limbs (c * b).natAbs).length ≤ 20000 := by rw [Int.natAbs_mul]; exact len_mul lc lb
  have l3 : (limbs (b * d)).length ≤ 20000 := len_mul lb ld
  have l4 : (limbs (a * d - c * b).natAbs).length ≤ 20001 := len_le (by omega) (len_add l1 l2)
  simp -implicitDefEqProofs (disch := (first | omega | (simp only [go_sem] <;> omega) | fail)) only [go_sem, simprocAttr]
  refine Sat.drawn0 [] mixed (by kernel_rfl) ?_
  simp -implicitDefEqProofs (disch := (first | omega | (simp only [go_sem] <;> omega) | fail)) only [go_sem, simprocAttr]
  refine exQ.intro (scaled_ok a b d (by omega) (by omega) _ _ _ ⟨rfl, rfl⟩) ?_
  try simp -implicitDefEqProofs (disch := (first | omega | (simp only [go_sem] <;> omega) | fail)) only [go_sem, simprocAttr]
  refine exQ.intro (scaled_ok c d b (by omega) (by omega) _ _ _ ⟨rfl, rfl⟩) ?_
  try simp -implicitDefEqProofs (disch := (first | omega | (simp only [go_sem] <;> omega) | fail)) only [go_sem, simprocAttr]
  refine exQ.intro (bigMinus_ok (a * d) (c * b) (by omega) (by omega) _ _ _ ⟨rfl, rfl⟩) ?_
  try simp -implicitDefEqProofs (disch := (first | omega | (simp only [go_sem] <;> omega) | fail)) only [go_sem, simprocAttr]
  refine exQ.intro (times_nat b d (by omega) (by omega) _ _ _ ⟨rfl, rfl⟩) ?_
  try simp -implicitDefEqProofs (disch := (first | omega | (simp only [go_sem] <;> omega) | fail)) only [go_sem, simprocAttr]
  refine exQ.intro (lowest_ok (a * d - c * b) (b * d) (Nat.mul_pos hb hd) (by omega) (by omega) _ _ _ ⟨rfl, rfl⟩) ?_
  unfold ratP at h ⊢
  simp -implicitDefEqProofs (disch := (first | omega | (simp only [go_sem] <;> omega) | fail)) only [go_sem, simprocAttr]
  exact h

/-- A fraction, or none, as the program holds it. -/
def frA : Fr → AV
  | none => .lit (.pointer none)
  | some (n, d) => ratP n d

set_option maxRecDepth 100000 in
set_option maxHeartbeats 1000000 in
theorem fit_ok (n : Int) (d : Nat) (e : Env) (σ : St) (K : KT) (h : K (frA (if Fits n d then some (n, d) else none)) e σ) : ACall Tryz.prog 114 [ratP n d] e σ K := by
  unfold ratP
  refine ACall.pureW Tryz.func114 rfl Tryz.ntmps114 Tryz.results114 rfl rfl rfl ?_
  by_cases h1 : (limbs n.natAbs).length ≤ 24
  · have h1' : ¬ (24 : Int) < (limbs n.natAbs).length := by omega
    by_cases h2 : (limbs d).length ≤ 24
    · have h2' : ¬ (24 : Int) < (limbs d).length := by omega
      rw [if_pos ⟨h1, h2⟩] at h
      simp -implicitDefEqProofs (disch := (first | omega | (simp only [go_sem] <;> omega) | fail)) only [go_sem, simprocAttr, h1', h2']
      exact h
    · have h2' : (24 : Int) < (limbs d).length := by omega
      rw [if_neg (fun h => h2 h.2)] at h
      simp -implicitDefEqProofs (disch := (first | omega | (simp only [go_sem] <;> omega) | fail)) only [go_sem, simprocAttr, h1', h2']
      exact h
  · have h1' : (24 : Int) < (limbs n.natAbs).length := by omega
    rw [if_neg (fun h => h1 h.1)] at h
    simp -implicitDefEqProofs (disch := (first | omega | (simp only [go_sem] <;> omega) | fail)) only [go_sem, simprocAttr, h1']
    exact h

theorem Good.lens {n : Int} {d : Nat} (h : Good n d) : (limbs n.natAbs).length ≤ 10000 ∧ (limbs d).length ≤ 10000 := by
  have := h.2.2.1; have := h.2.2.2; omega

set_option maxRecDepth 100000 in
set_option maxHeartbeats 1000000 in
theorem add_ok (x y : Fr) (hx : x.ok) (hy : y.ok) (e : Env) (σ : St) (K : KT) (h : K (frA (addF x y)) e σ) : ACall Tryz.prog 67 [frA x, frA y] e σ K := by
  refine ACall.pureW Tryz.func67 rfl Tryz.ntmps67 Tryz.results67 rfl rfl rfl ?_
  match x, y, hx, hy, h with
  | none, y, _, _, h =>
    simp only [frA]
    simp -implicitDefEqProofs (disch := (first | omega | (simp only [go_sem] <;> omega) | fail)) only [go_sem, simprocAttr]
    exact h
  | some (a, b), none, _, _, h =>
    simp only [frA, ratP]
    simp -implicitDefEqProofs (disch := (first | omega | (simp only [go_sem] <;> omega) | fail)) only [go_sem, simprocAttr]
    exact h
  | some (a, b), some (c, d), hx, hy, h =>
    simp only [frA, ratP]
    simp -implicitDefEqProofs (disch := (first | omega | (simp only [go_sem] <;> omega) | fail)) only [go_sem, simprocAttr]
    refine callF.plain (ratPlus_ok a c b d hx.1 hy.1 hx.lens.1 hx.lens.2 hy.lens.1 hy.lens.2 _ _ _ ?_)
    unfold ratP
    simp -implicitDefEqProofs (disch := (first | omega | (simp only [go_sem] <;> omega) | fail)) only [go_sem, simprocAttr]
    refine callF.plain (fit_ok _ _ _ _ _ ?_)
    simp only [addF, lowF] at h
    split at h <;> rename_i hf
    · rw [if_pos hf]
      simp only [frA, ratP] at h ⊢
      simp -implicitDefEqProofs (disch := (first | omega | (simp only [go_sem] <;> omega) | fail)) only [go_sem, simprocAttr]
      exact h
    · rw [if_neg hf]
      simp only [frA, ratP] at h ⊢
      simp -implicitDefEqProofs (disch := (first | omega | (simp only [go_sem] <;> omega) | fail)) only [go_sem, simprocAttr]
      exact h
set_option maxRecDepth 100000 in
set_option maxHeartbeats 1000000 in
theorem mul_ok (x y : Fr) (hx : x.ok) (hy : y.ok) (e : Env) (σ : St) (K : KT) (h : K (frA (mulF x y)) e σ) : ACall Tryz.prog 75 [frA x, frA y] e σ K := by
  refine ACall.pureW Tryz.func75 rfl Tryz.ntmps75 Tryz.results75 rfl rfl rfl ?_
  match x, y, hx, hy, h with
  | none, y, _, _, h =>
    simp only [frA]
    simp -implicitDefEqProofs (disch := (first | omega | (simp only [go_sem] <;> omega) | fail)) only [go_sem, simprocAttr]
    exact h
  | some (a, b), none, _, _, h =>
    simp only [frA, ratP]
    simp -implicitDefEqProofs (disch := (first | omega | (simp only [go_sem] <;> omega) | fail)) only [go_sem, simprocAttr]
    exact h
  | some (a, b), some (c, d), hx, hy, h =>
    simp only [frA, ratP]
    simp -implicitDefEqProofs (disch := (first | omega | (simp only [go_sem] <;> omega) | fail)) only [go_sem, simprocAttr]
    refine callF.plain (ratTimes_ok a c b d hx.1 hy.1 hx.lens.1 hx.lens.2 hy.lens.1 hy.lens.2 _ _ _ ?_)
    unfold ratP
    simp -implicitDefEqProofs (disch := (first | omega | (simp only [go_sem] <;> omega) | fail)) only [go_sem, simprocAttr]
    refine callF.plain (fit_ok _ _ _ _ _ ?_)
    simp only [mulF, lowF] at h
    split at h <;> rename_i hf
    · rw [if_pos hf]
      simp only [frA, ratP] at h ⊢
      simp -implicitDefEqProofs (disch := (first | omega | (simp only [go_sem] <;> omega) | fail)) only [go_sem, simprocAttr]
      exact h
    · rw [if_neg hf]
      simp only [frA, ratP] at h ⊢
      simp -implicitDefEqProofs (disch := (first | omega | (simp only [go_sem] <;> omega) | fail)) only [go_sem, simprocAttr]
      exact h
set_option maxRecDepth 100000 in
set_option maxHeartbeats 1000000 in
theorem sub_ok (x y : Fr) (hx : x.ok) (hy : y.ok) (e : Env) (σ : St) (K : KT) (h : K (frA (subF x y)) e σ) : ACall Tryz.prog 148 [frA x, frA y] e σ K := by
  refine ACall.pureW Tryz.func148 rfl Tryz.ntmps148 Tryz.results148 rfl rfl rfl ?_
  match x, y, hx, hy, h with
  | none, y, _, _, h =>
    simp only [frA]
    simp -implicitDefEqProofs (disch := (first | omega | (simp only [go_sem] <;> omega) | fail)) only [go_sem, simprocAttr]
    exact h
  | some (a, b), none, _, _, h =>
    simp only [frA, ratP]
    simp -implicitDefEqProofs (disch := (first | omega | (simp only [go_sem] <;> omega) | fail)) only [go_sem, simprocAttr]
    exact h
  | some (a, b), some (c, d), hx, hy, h =>
    simp only [frA, ratP]
    simp -implicitDefEqProofs (disch := (first | omega | (simp only [go_sem] <;> omega) | fail)) only [go_sem, simprocAttr]
    refine callF.plain (ratMinus_ok a c b d hx.1 hy.1 hx.lens.1 hx.lens.2 hy.lens.1 hy.lens.2 _ _ _ ?_)
    unfold ratP
    simp -implicitDefEqProofs (disch := (first | omega | (simp only [go_sem] <;> omega) | fail)) only [go_sem, simprocAttr]
    refine callF.plain (fit_ok _ _ _ _ _ ?_)
    simp only [subF, lowF] at h
    split at h <;> rename_i hf
    · rw [if_pos hf]
      simp only [frA, ratP] at h ⊢
      simp -implicitDefEqProofs (disch := (first | omega | (simp only [go_sem] <;> omega) | fail)) only [go_sem, simprocAttr]
      exact h
    · rw [if_neg hf]
      simp only [frA, ratP] at h ⊢
      simp -implicitDefEqProofs (disch := (first | omega | (simp only [go_sem] <;> omega) | fail)) only [go_sem, simprocAttr]
      exact h

set_option maxRecDepth 100000 in
set_option maxHeartbeats 1000000 in
theorem neg_ok (x : Fr) (e : Env) (σ : St) (K : KT) (h : K (frA (negF x)) e σ) : ACall Tryz.prog 86 [frA x] e σ K := by
  refine ACall.pureW Tryz.func86 rfl Tryz.ntmps86 Tryz.results86 rfl rfl rfl ?_
  match x, h with
  | none, h =>
    simp only [frA]
    simp -implicitDefEqProofs (disch := (first | omega | (simp only [go_sem] <;> omega) | fail)) only [go_sem, simprocAttr]
    exact h
  | some (a, b), h =>
    simp only [frA, ratP]
    simp -implicitDefEqProofs (disch := (first | omega | (simp only [go_sem] <;> omega) | fail)) only [go_sem, simprocAttr]
    refine Sat.drawn0 [10, 11] mixed (by kernel_rfl) ?_
    simp -implicitDefEqProofs (disch := (first | omega | (simp only [go_sem] <;> omega) | fail)) only [go_sem, simprocAttr]
    refine exQ.intro (opposite_ok a _ _ _ ⟨rfl, rfl⟩) ?_
    simp only [negF, frA, ratP] at h
    unfold bigA
    simp -implicitDefEqProofs (disch := (first | omega | (simp only [go_sem] <;> omega) | fail)) only [go_sem, simprocAttr]
    exact h

/-- The sign of a number. -/
def sgnZ (n : Int) : Int := if n = 0 then 0 else if n < 0 then -1 else 1

set_option maxRecDepth 100000 in
set_option maxHeartbeats 1000000 in
theorem bigSign_ok (n : Int) (e : Env) (σ : St) (K : KT) (h : K (.lit (.int .i64 (sgnZ n))) e σ) : ACall Tryz.prog 118 [bigA n] e σ K := by
  unfold bigA
  refine ACall.pureW Tryz.func118 rfl Tryz.ntmps118 Tryz.results118 rfl rfl rfl ?_
  unfold sgnZ at h
  by_cases h0 : n = 0
  · subst h0
    have hz : ((limbs 0).length : Int) = 0 := by simp [limbs_zero]
    rw [if_pos rfl] at h
    simp -implicitDefEqProofs (disch := (first | omega | (simp only [go_sem] <;> omega) | fail)) only [go_sem, simprocAttr, hz]
    exact h
  · have hz : ¬ ((limbs n.natAbs).length : Int) = 0 := by have := limbs_len_pos (n := n.natAbs) (by omega); omega
    rw [if_neg h0] at h
    by_cases h1 : n < 0
    · rw [if_pos h1] at h
      simp -implicitDefEqProofs (disch := (first | omega | (simp only [go_sem] <;> omega) | fail)) only [go_sem, simprocAttr, hz, h1]
      exact h
    · rw [if_neg h1] at h
      simp -implicitDefEqProofs (disch := (first | omega | (simp only [go_sem] <;> omega) | fail)) only [go_sem, simprocAttr, hz, h1]
      exact h

set_option maxRecDepth 100000 in
set_option maxHeartbeats 1000000 in
theorem ratSign_ok (n : Int) (d : Nat) (e : Env) (σ : St) (K : KT) (h : K (.lit (.int .i64 (sgnZ n))) e σ) : ACall Tryz.prog 74 [ratP n d] e σ K := by
  unfold ratP
  refine ACall.pureW Tryz.func74 rfl Tryz.ntmps74 Tryz.results74 rfl rfl rfl ?_
  simp -implicitDefEqProofs (disch := (first | omega | (simp only [go_sem] <;> omega) | fail)) only [go_sem, simprocAttr]
  refine callF.plain (bigSign_ok n _ _ _ ?_)
  simp -implicitDefEqProofs (disch := (first | omega | (simp only [go_sem] <;> omega) | fail)) only [go_sem, simprocAttr]
  exact h

set_option maxRecDepth 100000 in
set_option maxHeartbeats 1000000 in
theorem integer_ok (n : Int) (h0 : -9223372036854775808 ≤ n) (h1 : n ≤ 9223372036854775807) (e : Env) (σ : St) (K : KT) (h : K (bigA n) e σ) : ACall Tryz.prog 116 [.lit (.int .i64 n)] e σ K := by
  refine ACall.pureW Tryz.func116 rfl Tryz.ntmps116 Tryz.results116 rfl rfl rfl ?_
  by_cases hn : n < 0
  · simp -implicitDefEqProofs (disch := (first | omega | (simp only [go_sem] <;> omega) | fail)) only [go_sem, simprocAttr, hn, wrap_i64, wrap_u64]
    refine callF.plain ?_
    refine ACall.eq_args (l' := [.lit (.int .u64 ((n.natAbs : Nat) : Int))]) (by simp -implicitDefEqProofs (disch := (first | omega | (simp only [go_sem] <;> omega) | fail)) only [go_sem, simprocAttr]; rw [show 0 - (n + 1) + 1 = ((n.natAbs : Nat) : Int) by omega]) ?_
    refine limbsOf_ok _ (by omega) _ _ _ ?_
    simp -implicitDefEqProofs (disch := (first | omega | (simp only [go_sem] <;> omega) | fail)) only [go_sem, simprocAttr]
    refine callF.plain (signed_ok true n.natAbs _ _ _ ?_)
    have hs : sgn true n.natAbs = n := by simp only [sgn, if_true]; omega
    rw [hs]
    unfold bigA at h ⊢
    simp -implicitDefEqProofs (disch := (first | omega | (simp only [go_sem] <;> omega) | fail)) only [go_sem, simprocAttr]
    exact h
  · simp -implicitDefEqProofs (disch := (first | omega | (simp only [go_sem] <;> omega) | fail)) only [go_sem, simprocAttr, hn, wrap_i64, wrap_u64]
    refine callF.plain ?_
    refine ACall.eq_args (l' := [.lit (.int .u64 ((n.natAbs : Nat) : Int))]) (by simp -implicitDefEqProofs (disch := (first | omega | (simp only [go_sem] <;> omega) | fail)) only [go_sem, simprocAttr]; rw [show n = ((n.natAbs : Nat) : Int) by omega]; rfl) ?_
    refine limbsOf_ok _ (by omega) _ _ _ ?_
    simp -implicitDefEqProofs (disch := (first | omega | (simp only [go_sem] <;> omega) | fail)) only [go_sem, simprocAttr]
    refine callF.plain (signed_ok false n.natAbs _ _ _ ?_)
    have hs : sgn false n.natAbs = n := by simp only [sgn]; simp; omega
    rw [hs]
    unfold bigA at h ⊢
    simp -implicitDefEqProofs (disch := (first | omega | (simp only [go_sem] <;> omega) | fail)) only [go_sem, simprocAttr]
    exact h

set_option maxRecDepth 100000 in
set_option maxHeartbeats 1000000 in
theorem whole_ok (n : Int) (h0 : -9223372036854775808 ≤ n) (h1 : n ≤ 9223372036854775807) (e : Env) (σ : St) (K : KT) (h : K (frA (wholeF n)) e σ) : ACall Tryz.prog 68 [.lit (.int .i64 n)] e σ K := by
  refine ACall.pureW Tryz.func68 rfl Tryz.ntmps68 Tryz.results68 rfl rfl rfl ?_
  simp -implicitDefEqProofs (disch := (first | omega | (simp only [go_sem] <;> omega) | fail)) only [go_sem, simprocAttr]
  refine callF.plain (integer_ok n h0 h1 _ _ _ ?_)
  unfold bigA
  simp only [wholeF, frA, ratP, limbs_1] at h
  simp -implicitDefEqProofs (disch := (first | omega | (simp only [go_sem] <;> omega) | fail)) only [go_sem, simprocAttr]
  exact h
end Go.Proofs.Qqz
