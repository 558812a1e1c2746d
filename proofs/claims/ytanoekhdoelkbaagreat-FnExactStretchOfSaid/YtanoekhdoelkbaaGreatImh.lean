/- Contracts: valid numbers and fractions; lists of fractions. -/
import Derived.Test.YtanoekhdoelkbaaGreatImg
set_option linter.unusedSimpArgs false
set_option linter.unusedVariables false
namespace Go.Proofs.Qqz
open Go

theorem getD_elem {α : Type} [Inhabited α] (l : List α) (i : Nat) (h : i < l.length) (d : α) : l.getD i d = l[i] := by
  simp [List.getD, h]

theorem idx_start {α : Type} (p : α → Bool) (l : List α) : l.findIdx? p = ((l.drop 0).findIdx? p).map (· + 0) := by simp
theorem idx_hit {α : Type} {p : α → Bool} {l : List α} {i : Nat} (h : i < l.length) (hp : p l[i] = true) (hf : l.findIdx? p = ((l.drop i).findIdx? p).map (· + i)) : idxZ p l = i := by
  unfold idxZ
  rw [hf, List.drop_eq_getElem_cons h, List.findIdx?_cons, hp]; simp
theorem idx_end {α : Type} {p : α → Bool} {l : List α} {i : Nat} (h : ¬ i < l.length) (hf : l.findIdx? p = ((l.drop i).findIdx? p).map (· + i)) : idxZ p l = -1 := by
  unfold idxZ
  rw [hf, List.drop_of_length_le (by omega)]; rfl

set_option maxRecDepth 100000 in
set_option maxHeartbeats 1000000 in
theorem indexInts_ok (F : Nat) (caps : List AV) (p : Int → Bool) (l : List Int) (hl : l.length ≤ 1000000000) (e : Env) (σ : St) (hcaps : caps.map (nlV 3) = caps) (hF : ∀ x ∈ l, ∀ (e : Env) (K : KT), K (.lit (.bool (p x))) e σ → ACall Tryz.prog F (.lit (.int .i64 x) :: caps) e σ K) (K : KT)
    (h : K (.lit (.int .i64 (idxZ p l))) e σ) : ACall Tryz.prog 141 [ints l, .clo F caps] e σ K := by
  refine ACall.pureW Tryz.func141 rfl Tryz.ntmps141 Tryz.results141 rfl rfl rfl ?_
  simp -implicitDefEqProofs (disch := (first | omega | (simp only [go_sem] <;> omega) | fail)) only [go_sem, simprocAttr]
  refine Sat.loopW (fun (t : Nat) e' σ' => ∃ i, t = l.length - i ∧ i ≤ l.length ∧ e' 0 = sl intRow l ∧ e' 1 = .clo F caps ∧ e' 7 = .lit (.int .i64 l.length) ∧ e' 8 = .lit (.int .i64 (i : Nat)) ∧ l.findIdx? p = ((l.drop i).findIdx? p).map (· + i) ∧ σ' = σ) (fun t => t) l.length rfl ⟨0, by omega, by omega, rfl, rfl, rfl, rfl, idx_start p l, rfl⟩ ?_
  rintro t e1 σ1 ⟨i, rfl, hi, h0, h1, h7, h8, hf, rfl⟩
  by_cases hlt : i < l.length
  · have hlt' : (i : Int) < l.length := by omega
    have hx := getD_elem l i hlt 0
    simp -implicitDefEqProofs (disch := (first | omega | (simp only [go_sem] <;> omega) | fail)) only [go_sem, simprocAttr, h0, h1, h7, h8, hlt', getD_int, hx]
    refine callF.plain ?_
    refine ACall.eq_args (l' := .lit (.int .i64 l[i]) :: caps) (by simp [hcaps]; rfl) ?_
    refine hF _ (List.getElem_mem hlt) _ _ ?_
    by_cases hp : p l[i] = true
    · simp -implicitDefEqProofs (disch := (first | omega | (simp only [go_sem] <;> omega) | fail)) only [go_sem, simprocAttr, hp]
      rw [idx_hit hlt hp hf] at h
      exact h
    · have hp' : p l[i] = false := by simpa using hp
      simp -implicitDefEqProofs (disch := (first | omega | (simp only [go_sem] <;> omega) | fail)) only [go_sem, simprocAttr, hp', wrap_i64, h8, h7, h0, h1]
      refine ⟨l.length - (i + 1), by omega, i + 1, rfl, by omega, rfl, ?_⟩
      rw [hf]; exact findIdx_drop p l i hlt hp'
  · have hlt' : ¬ (i : Int) < l.length := by omega
    simp -implicitDefEqProofs (disch := (first | omega | (simp only [go_sem] <;> omega) | fail)) only [go_sem, simprocAttr, h0, h1, h7, h8, hlt']
    rw [idx_end hlt hf] at h
    exact h

set_option maxRecDepth 100000 in
set_option maxHeartbeats 1000000 in
theorem containsInts_ok (F : Nat) (caps : List AV) (p : Int → Bool) (l : List Int) (hl : l.length ≤ 1000000000) (e : Env) (σ : St) (hcaps : caps.map (nlV 3) = caps) (hF : ∀ x ∈ l, ∀ (e : Env) (K : KT), K (.lit (.bool (p x))) e σ → ACall Tryz.prog F (.lit (.int .i64 x) :: caps) e σ K) (K : KT)
    (h : K (.lit (.bool (l.any p))) e σ) : ACall Tryz.prog 111 [ints l, .clo F caps] e σ K := by
  refine ACall.pureW Tryz.func111 rfl Tryz.ntmps111 Tryz.results111 rfl rfl rfl ?_
  simp -implicitDefEqProofs (disch := (first | omega | (simp only [go_sem] <;> omega) | fail)) only [go_sem, simprocAttr]
  refine callF.plain ?_
  refine ACall.eq_args (l' := [ints l, .clo F caps]) (by simp -implicitDefEqProofs (disch := (first | omega | (simp only [go_sem] <;> omega) | fail)) only [go_sem, simprocAttr]) ?_
  refine indexInts_ok F caps p l hl _ _ hcaps hF _ ?_
  rw [← idxZ_ge] at h
  simp -implicitDefEqProofs (disch := (first | omega | (simp only [go_sem] <;> omega) | fail)) only [go_sem, simprocAttr]
  exact h

set_option maxRecDepth 100000 in
set_option maxHeartbeats 1000000 in
theorem natDigit_ok (x : Int) (e : Env) (σ : St) (K : KT) (h : K (.lit (.bool (decide (x < 0) || decide (1000000000 ≤ x)))) e σ) : ACall Tryz.prog 180 [.lit (.int .i64 x)] e σ K := by
  refine ACall.pureW Tryz.func180 rfl Tryz.ntmps180 Tryz.results180 rfl rfl rfl ?_
  by_cases h0 : x < 0
  · simp -implicitDefEqProofs (disch := (first | omega | (simp only [go_sem] <;> omega) | fail)) only [go_sem, simprocAttr, h0]
    simp [h0] at h
    exact h
  · by_cases h1 : 1000000000 ≤ x
    · simp -implicitDefEqProofs (disch := (first | omega | (simp only [go_sem] <;> omega) | fail)) only [go_sem, simprocAttr, h0, h1]
      simp [h1] at h
      exact h
    · simp -implicitDefEqProofs (disch := (first | omega | (simp only [go_sem] <;> omega) | fail)) only [go_sem, simprocAttr, h0, h1]
      simp [h0, h1] at h
      exact h

theorem natOkB_eq (l : List Int) (h : l.length ≤ 60) (h1 : l = [] ∨ l.getD (l.length - 1) 0 ≠ 0) : natOkB l = !(l.any fun x => decide (x < 0) || decide (1000000000 ≤ x)) := by
  have e1 : (fun x : Int => !(decide (x < 0) || decide (1000000000 ≤ x))) = fun x => decide (0 ≤ x) && decide (x < 1000000000) := by
    funext x
    by_cases h0 : x < 0 <;> by_cases h1 : 1000000000 ≤ x <;> simp [h0, h1] <;> omega
  rw [natOkB, decide_eq_true h, List.not_any_eq_all_not]
  have e2 : (decide (l = []) || decide (l.getD (l.length - 1) 0 ≠ 0)) = true := by
    rw [Bool.or_eq_true, decide_eq_true_eq, decide_eq_true_eq]; exact h1
  rw [e2, e1, Bool.true_and, Bool.true_and]

set_option maxRecDepth 100000 in
set_option maxHeartbeats 1000000 in
theorem natOk_ok (l : List Int) (e : Env) (σ : St) (K : KT) (h : K (.lit (.bool (natOkB l))) e σ) : ACall Tryz.prog 175 [ints l] e σ K := by
  refine ACall.pureW Tryz.func175 rfl Tryz.ntmps175 Tryz.results175 rfl rfl rfl ?_
  by_cases h60 : l.length ≤ 60
  · have h60' : ¬ (60 : Int) < l.length := by omega
    by_cases hp : 0 < l.length
    · have hp' : (0 : Int) < l.length := by omega
      have hi : ((l.length : Int) - 1).toNat = l.length - 1 := by omega
      by_cases hz : l.getD (l.length - 1) 0 = 0
      · have hf : natOkB l = false := by
          cases hb : natOkB l with
          | false => rfl
          | true =>
            have := ((natOkB_iff l).1 hb).2.2
            rw [getLast_getD hp, hz] at this
            exact absurd rfl this
        rw [hf] at h
        simp -implicitDefEqProofs (disch := (first | omega | (simp only [go_sem] <;> omega) | fail)) only [go_sem, simprocAttr, h60', hp', hi, hz, wrap_i64, getD_int]
        exact h
      · simp -implicitDefEqProofs (disch := (first | omega | (simp only [go_sem] <;> omega) | fail)) only [go_sem, simprocAttr, h60', hp', hi, hz, wrap_i64, getD_int]
        refine callF.plain ?_
        refine ACall.eq_args (l' := [ints l, .clo 180 []]) (by simp -implicitDefEqProofs (disch := (first | omega | (simp only [go_sem] <;> omega) | fail)) only [go_sem, simprocAttr]) ?_
        refine containsInts_ok _ [] (fun x => decide (x < 0) || decide (1000000000 ≤ x)) l (by omega) _ _ rfl (fun x _ e K h => natDigit_ok x e _ K h) _ ?_
        rw [natOkB_eq l h60 (.inr hz)] at h
        simp -implicitDefEqProofs (disch := (first | omega | (simp only [go_sem] <;> omega) | fail)) only [go_sem, simprocAttr]
        exact h
    · have hp' : ¬ (0 : Int) < l.length := by omega
      have hn : l = [] := List.eq_nil_of_length_eq_zero (by omega)
      simp -implicitDefEqProofs (disch := (first | omega | (simp only [go_sem] <;> omega) | fail)) only [go_sem, simprocAttr, h60', hp', wrap_i64, getD_int]
      refine callF.plain ?_
      refine ACall.eq_args (l' := [ints l, .clo 180 []]) (by simp -implicitDefEqProofs (disch := (first | omega | (simp only [go_sem] <;> omega) | fail)) only [go_sem, simprocAttr]) ?_
      refine containsInts_ok _ [] (fun x => decide (x < 0) || decide (1000000000 ≤ x)) l (by omega) _ _ rfl (fun x _ e K h => natDigit_ok x e _ K h) _ ?_
      rw [natOkB_eq l h60 (.inl hn)] at h
      simp -implicitDefEqProofs (disch := (first | omega | (simp only [go_sem] <;> omega) | fail)) only [go_sem, simprocAttr]
      exact h
  · have h60' : (60 : Int) < l.length := by omega
    have hf : natOkB l = false := by
      cases hb : natOkB l with
      | false => rfl
      | true => exact absurd ((natOkB_iff l).1 hb).1 h60
    rw [hf] at h
    simp -implicitDefEqProofs (disch := (first | omega | (simp only [go_sem] <;> omega) | fail)) only [go_sem, simprocAttr, h60']
    exact h

set_option maxRecDepth 100000 in
set_option maxHeartbeats 1000000 in
theorem bigOk_ok (neg : Bool) (l : List Int) (e : Env) (σ : St) (K : KT) (h : K (.lit (.bool (bigOkB neg l))) e σ) : ACall Tryz.prog 174 [.agg [.lit (.bool neg), ints l]] e σ K := by
  refine ACall.pureW Tryz.func174 rfl Tryz.ntmps174 Tryz.results174 rfl rfl rfl ?_
  simp -implicitDefEqProofs (disch := (first | omega | (simp only [go_sem] <;> omega) | fail)) only [go_sem, simprocAttr]
  refine callF.plain (natOk_ok l _ _ _ ?_)
  unfold bigOkB at h
  cases hb : natOkB l with
  | false =>
    rw [hb] at h
    simp -implicitDefEqProofs (disch := (first | omega | (simp only [go_sem] <;> omega) | fail)) only [go_sem, simprocAttr]
    exact h
  | true =>
    rw [hb] at h
    cases neg with
    | false =>
      simp -implicitDefEqProofs (disch := (first | omega | (simp only [go_sem] <;> omega) | fail)) only [go_sem, simprocAttr]
      exact h
    | true =>
      by_cases hz : l = []
      · have hz' : (l.length : Int) = 0 := by rw [hz]; rfl
        simp [hz] at h
        simp -implicitDefEqProofs (disch := (first | omega | (simp only [go_sem] <;> omega) | fail)) only [go_sem, simprocAttr, hz']
        exact h
      · have hz' : ¬ (l.length : Int) = 0 := fun h => hz (List.eq_nil_of_length_eq_zero (by omega))
        simp [hz] at h
        simp -implicitDefEqProofs (disch := (first | omega | (simp only [go_sem] <;> omega) | fail)) only [go_sem, simprocAttr, hz']
        exact h

/-- A fraction as the program's interface holds it. -/
structure RV where
  neg : Bool
  mag : List Int
  den : List Int
  deriving Inhabited
def ratRow (r : RV) : List AV := [.lit (.bool r.neg), ints r.mag, ints r.den]
theorem ratRow_eq (r : RV) : ratRow r = [.lit (.bool r.neg), ints r.mag, ints r.den] := rfl
def ratV (r : RV) : AV := .agg [.lit (.bool r.neg), ints r.mag, ints r.den]
def RV.fr (r : RV) : Fr := ratOf r.neg r.mag r.den
/-- The fraction as a value; nought for none. -/
def Fr.rv : Fr → RV
  | some (n, d) => ⟨decide (n < 0), limbs n.natAbs, limbs d⟩
  | none => ⟨false, [], []⟩

set_option maxRecDepth 100000 in
set_option maxHeartbeats 1000000 in
theorem ratOk_ok (neg : Bool) (mag den : List Int) (e : Env) (σ : St) (K : KT) (h : K (.lit (.bool (ratOkB neg mag den))) e σ) : ACall Tryz.prog 164 [.agg [.lit (.bool neg), ints mag, ints den]] e σ K := by
  refine ACall.pureW Tryz.func164 rfl Tryz.ntmps164 Tryz.results164 rfl rfl rfl ?_
  unfold ratOkB at h
  simp -implicitDefEqProofs (disch := (first | omega | (simp only [go_sem] <;> omega) | fail)) only [go_sem, simprocAttr]
  refine callF.plain (bigOk_ok neg mag _ _ _ ?_)
  cases hb : bigOkB neg mag with
  | false =>
    rw [hb] at h
    simp -implicitDefEqProofs (disch := (first | omega | (simp only [go_sem] <;> omega) | fail)) only [go_sem, simprocAttr]
    exact h
  | true =>
  simp -implicitDefEqProofs (disch := (first | omega | (simp only [go_sem] <;> omega) | fail)) only [go_sem, simprocAttr]
  refine callF.plain (natOk_ok den _ _ _ ?_)
  cases hc : natOkB den with
  | false =>
    rw [hb, hc] at h
    simp -implicitDefEqProofs (disch := (first | omega | (simp only [go_sem] <;> omega) | fail)) only [go_sem, simprocAttr]
    exact h
  | true =>
  rw [hb, hc] at h
  by_cases hz : den = []
  · have hz' : (den.length : Int) = 0 := by rw [hz]; rfl
    simp [hz] at h
    simp -implicitDefEqProofs (disch := (first | omega | (simp only [go_sem] <;> omega) | fail)) only [go_sem, simprocAttr, hz']
    exact h
  have hz' : ¬ (den.length : Int) = 0 := fun h => hz (List.eq_nil_of_length_eq_zero (by omega))
  by_cases h1 : mag.length ≤ 24
  · have h1' : ¬ (24 : Int) < mag.length := by omega
    by_cases h2 : den.length ≤ 24
    · have h2' : ¬ (24 : Int) < den.length := by omega
      simp -implicitDefEqProofs (disch := (first | omega | (simp only [go_sem] <;> omega) | fail)) only [go_sem, simprocAttr, hz', h1', h2']
      have hcm : Canon mag := by
        unfold bigOkB at hb
        rw [Bool.and_eq_true] at hb
        exact ((natOkB_iff _).1 hb.1).2
      have hcd : Canon den := ((natOkB_iff _).1 hc).2
      refine callF.plain ?_
      refine ACall.eq_args (l' := [ints (limbs (valL mag).toNat), ints (limbs (valL den).toNat)]) (by rw [← hcm.eq, ← hcd.eq]; simp -implicitDefEqProofs (disch := (first | omega | (simp only [go_sem] <;> omega) | fail)) only [go_sem, simprocAttr]) ?_
      refine divisor_ok _ _ (by rw [← hcm.eq]; omega) (by rw [← hcd.eq]; omega) _ _ _ ?_
      simp -implicitDefEqProofs (disch := (first | omega | (simp only [go_sem] <;> omega) | fail)) only [go_sem, simprocAttr]
      refine callF.fz [σ.n + 1] ?_
      have hd0 := hcd.pos hz
      have hlg : (limbs (Nat.gcd (valL mag).toNat (valL den).toNat)).length ≤ 100000 := len_le (Nat.gcd_le_right _ (by omega)) (by rw [← hcd.eq]; omega)
      refine ACall.eq_args (l' := [ints (limbs (Nat.gcd (valL mag).toNat (valL den).toNat)), ints (limbs 1)]) (by rw [limbs_1]; simp -implicitDefEqProofs (disch := (first | omega | (simp only [go_sem] <;> omega) | fail)) only [go_sem, simprocAttr]; rfl) ?_
      refine cmp_nat _ 1 (by omega) (by rw [limbs_1]; simp) _ _ _ ?_
      by_cases hg : Nat.gcd (valL mag).toNat (valL den).toNat = 1
      · have hcz : cmpZ (Nat.gcd (valL mag).toNat (valL den).toNat : Nat) 1 = 0 := by rw [cmpZ_zero]; omega
        simp -implicitDefEqProofs (disch := (first | omega | (simp only [go_sem] <;> omega) | fail)) only [go_sem, simprocAttr, hcz]
        simp [hz, h1, h2, hg] at h
        exact h
      · have hcz : ¬ cmpZ (Nat.gcd (valL mag).toNat (valL den).toNat : Nat) 1 = 0 := by rw [cmpZ_zero]; omega
        simp -implicitDefEqProofs (disch := (first | omega | (simp only [go_sem] <;> omega) | fail)) only [go_sem, simprocAttr, hcz]
        simp [hz, h1, h2, hg] at h
        exact h
    · have h2' : (24 : Int) < den.length := by omega
      simp [hz, h1, h2] at h
      simp -implicitDefEqProofs (disch := (first | omega | (simp only [go_sem] <;> omega) | fail)) only [go_sem, simprocAttr, hz', h1', h2']
      exact h
  · have h1' : (24 : Int) < mag.length := by omega
    simp [hz, h1] at h
    simp -implicitDefEqProofs (disch := (first | omega | (simp only [go_sem] <;> omega) | fail)) only [go_sem, simprocAttr, hz', h1']
    exact h

set_option maxRecDepth 100000 in
set_option maxHeartbeats 1000000 in
theorem load_ok (r : RV) (e : Env) (σ : St) (K : KT) (h : K (frA r.fr) e σ) : ACall Tryz.prog 138 [ratV r] e σ K := by
  unfold ratV
  refine ACall.pureW Tryz.func138 rfl Tryz.ntmps138 Tryz.results138 rfl rfl rfl ?_
  simp -implicitDefEqProofs (disch := (first | omega | (simp only [go_sem] <;> omega) | fail)) only [go_sem, simprocAttr]
  refine callF.plain (ratOk_ok r.neg r.mag r.den _ _ _ ?_)
  unfold RV.fr at h
  by_cases hb : ratOkB r.neg r.mag r.den = true
  · obtain ⟨n, d, hg, h1, h2, h3, h4⟩ := ratOkB_some hb
    rw [h4] at h
    simp only [frA, ratP] at h
    rw [← h1, ← h2, ← h3] at h
    simp -implicitDefEqProofs (disch := (first | omega | (simp only [go_sem] <;> omega) | fail)) only [go_sem, simprocAttr, hb]
    exact h
  · have hb' : ratOkB r.neg r.mag r.den = false := by simpa using hb
    rw [ratOf, if_neg hb] at h
    simp -implicitDefEqProofs (disch := (first | omega | (simp only [go_sem] <;> omega) | fail)) only [go_sem, simprocAttr, hb']
    exact h

set_option maxRecDepth 100000 in
set_option maxHeartbeats 1000000 in
theorem fewer_ok (n : Int) (hn : (limbs n.natAbs).length ≤ 60) (e : Env) (σ : St) (K : KT) (h : K (bigA n) e σ) : ACall Tryz.prog 139 [bigA n] e σ K := by
  unfold bigA at h ⊢
  refine ACall.pureW Tryz.func139 rfl Tryz.ntmps139 Tryz.results139 rfl rfl rfl ?_
  have hn' : ¬ (60 : Int) < (limbs n.natAbs).length := by omega
  simp -implicitDefEqProofs (disch := (first | omega | (simp only [go_sem] <;> omega) | fail)) only [go_sem, simprocAttr, hn']
  refine Sat.drawn0 [6] mixed (by kernel_rfl) ?_
  simp -implicitDefEqProofs (disch := (first | omega | (simp only [go_sem] <;> omega) | fail)) only [go_sem, simprocAttr]
  refine exQ.intro (clone_ok _ (by omega) _ _ _ ⟨rfl, rfl⟩) ?_
  simp -implicitDefEqProofs (disch := (first | omega | (simp only [go_sem] <;> omega) | fail)) only [go_sem, simprocAttr]
  exact h

set_option maxRecDepth 100000 in
set_option maxHeartbeats 1000000 in
theorem store_ok (x : Fr) (hx : x.ok) (e : Env) (σ : St) (K : KT) (h : K (ratV x.rv) e σ) : ACall Tryz.prog 107 [frA x] e σ K := by
  refine ACall.pureW Tryz.func107 rfl Tryz.ntmps107 Tryz.results107 rfl rfl rfl ?_
  match x, hx, h with
  | none, _, h =>
    simp only [frA]
    simp only [ratV, Fr.rv] at h
    simp -implicitDefEqProofs (disch := (first | omega | (simp only [go_sem] <;> omega) | fail)) only [go_sem, simprocAttr]
    exact h
  | some (n, d), hx, h =>
    have hl := hx.2.2
    simp only [frA, ratP]
    simp only [ratV, Fr.rv] at h
    simp -implicitDefEqProofs (disch := (first | omega | (simp only [go_sem] <;> omega) | fail)) only [go_sem, simprocAttr]
    refine Sat.drawn0 [11] mixed (by kernel_rfl) ?_
    simp -implicitDefEqProofs (disch := (first | omega | (simp only [go_sem] <;> omega) | fail)) only [go_sem, simprocAttr]
    refine exQ.intro (fewer_ok n (by have := hl.1; omega) _ _ _ ⟨rfl, rfl⟩) ?_
    try simp -implicitDefEqProofs (disch := (first | omega | (simp only [go_sem] <;> omega) | fail)) only [go_sem, simprocAttr]
    refine exQ.intro (clone_ok _ (by have := hl.2; omega) _ _ _ ⟨rfl, rfl⟩) ?_
    unfold bigA
    simp -implicitDefEqProofs (disch := (first | omega | (simp only [go_sem] <;> omega) | fail)) only [go_sem, simprocAttr]
    exact h
end Go.Proofs.Qqz
