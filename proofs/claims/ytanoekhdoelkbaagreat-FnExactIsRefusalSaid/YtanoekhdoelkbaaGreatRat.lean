/- Fractions: the plain facts. -/
import Derived.Test.YtanoekhdoelkbaaGreatNat
set_option linter.unusedSimpArgs false
set_option linter.unusedVariables false
namespace Go.Proofs.Qqz

theorem limbs_len_iff (n k : Nat) : (limbs n).length ≤ k ↔ n < 1000000000 ^ k := by
  constructor
  · intro h
    apply Nat.lt_of_not_le
    intro hge
    have := limbs_length_ge n k hge
    omega
  · exact limbs_length_le n k

theorem len_mul {a b i j : Nat} (ha : (limbs a).length ≤ i) (hb : (limbs b).length ≤ j) : (limbs (a * b)).length ≤ i + j := by
  rw [limbs_len_iff] at *
  rw [Nat.pow_add]
  exact Nat.mul_lt_mul'' ha hb

theorem len_add {a b i : Nat} (ha : (limbs a).length ≤ i) (hb : (limbs b).length ≤ i) : (limbs (a + b)).length ≤ i + 1 := by
  rw [limbs_len_iff] at *
  rw [Nat.pow_succ]
  omega

theorem len_le {a b i : Nat} (h : a ≤ b) (hb : (limbs b).length ≤ i) : (limbs a).length ≤ i := Nat.le_trans (limbs_len_mono h) hb

theorem limbs_one {n : Nat} (h0 : 0 < n) (h : n < 1000000000) : limbs n = [(n : Int)] := by
  rw [limbs_pos (by omega)]
  have h1 : n / 1000000000 = 0 := by omega
  have h2 : n % 1000000000 = n := by omega
  rw [h1, h2, limbs_zero]

theorem limbs_1 : limbs 1 = [1] := limbs_one (by omega) (by omega)

theorem limbs_nil {n : Nat} : (limbs n).length = 0 ↔ n = 0 := by
  constructor
  · intro h
    apply Decidable.byContradiction
    intro h0
    rw [limbs_pos h0] at h; simp at h
  · rintro rfl; rw [limbs_zero]; rfl

theorem limbs_len_pos {n : Nat} (h : 0 < n) : 0 < (limbs n).length := by
  have := mt (limbs_nil (n := n)).1 (by omega)
  omega

theorem limbs_inj {a b : Nat} (h : limbs a = limbs b) : a = b := by
  have h1 := valL_limbs a
  rw [h, valL_limbs] at h1
  omega

/-- A sign and a magnitude. -/
def sgn (neg : Bool) (m : Nat) : Int := if neg then -(m : Int) else m
theorem sgn_natAbs (neg : Bool) (m : Nat) : (sgn neg m).natAbs = m := by cases neg <;> simp [sgn]
theorem sgn_neg (neg : Bool) (m : Nat) : decide (sgn neg m < 0) = (neg && decide (0 < m)) := by
  cases neg
  · simp [sgn]
  · have : (sgn true m < 0) ↔ 0 < m := by simp [sgn]
    simp [this]
theorem sgn_of (n : Int) : sgn (decide (n < 0)) n.natAbs = n := by
  unfold sgn
  split <;> rename_i h <;> simp at h <;> omega
theorem sgn_mul (a b : Int) : sgn (decide (a < 0) != decide (b < 0)) (a.natAbs * b.natAbs) = a * b := by
  have ha := sgn_of a
  have hb := sgn_of b
  generalize a.natAbs = m at *
  generalize decide (a < 0) = s at *
  generalize b.natAbs = k at *
  generalize decide (b < 0) = t at *
  subst ha hb
  cases s <;> cases t <;> simp [sgn, Int.neg_mul, Int.mul_neg]
theorem sgn_scale (a : Int) (d : Nat) : sgn (decide (a < 0)) (a.natAbs * d) = a * d := by
  have h := sgn_of a
  generalize a.natAbs = m at *
  generalize decide (a < 0) = s at *
  subst h
  cases s <;> simp [sgn, Int.neg_mul]

/-- A fraction in lowest terms: numerator and denominator divided by what they share. -/
def lowN (n : Int) (d : Nat) : Int := sgn (decide (n < 0)) (n.natAbs / Nat.gcd n.natAbs d)
def lowD (n : Int) (d : Nat) : Nat := d / Nat.gcd n.natAbs d
/-- Numerator and denominator have few enough limbs. -/
def Fits (n : Int) (d : Nat) : Prop := (limbs n.natAbs).length ≤ 24 ∧ (limbs d).length ≤ 24
instance (n : Int) (d : Nat) : Decidable (Fits n d) := inferInstanceAs (Decidable (_ ∧ _))
/-- A valid fraction. -/
def Good (n : Int) (d : Nat) : Prop := 0 < d ∧ Nat.gcd n.natAbs d = 1 ∧ Fits n d

theorem lowN_natAbs (n : Int) (d : Nat) : (lowN n d).natAbs = n.natAbs / Nat.gcd n.natAbs d := sgn_natAbs _ _
theorem low_gcd {n : Int} {d : Nat} (h : 0 < d) : Nat.gcd (lowN n d).natAbs (lowD n d) = 1 := by
  rw [lowN_natAbs, lowD]
  exact Nat.coprime_div_gcd_div_gcd (Nat.gcd_pos_of_pos_right _ h)
theorem lowD_pos {n : Int} {d : Nat} (h : 0 < d) : 0 < lowD n d := Nat.div_pos (Nat.gcd_le_right _ h) (Nat.gcd_pos_of_pos_right _ h)

/-- A fraction that is not too large, or none. -/
abbrev Fr := Option (Int × Nat)
def Fr.ok : Fr → Prop
  | none => True
  | some (n, d) => Good n d
def lowF (n : Int) (d : Nat) : Fr := if Fits (lowN n d) (lowD n d) then some (lowN n d, lowD n d) else none
theorem lowF_ok {n : Int} {d : Nat} (h : 0 < d) : (lowF n d).ok := by
  unfold lowF; split
  · exact ⟨lowD_pos h, low_gcd h, by assumption⟩
  · trivial
def addF : Fr → Fr → Fr
  | some (a, b), some (c, d) => lowF (a * d + c * b) (b * d)
  | _, _ => none
def subF : Fr → Fr → Fr
  | some (a, b), some (c, d) => lowF (a * d - c * b) (b * d)
  | _, _ => none
def mulF : Fr → Fr → Fr
  | some (a, b), some (c, d) => lowF (a * c) (b * d)
  | _, _ => none
def negF : Fr → Fr
  | some (a, b) => some (-a, b)
  | none => none
def wholeF (n : Int) : Fr := some (n, 1)


/-! Which lists and fractions are valid -/

def natOkB (l : List Int) : Bool := decide (l.length ≤ 60) && (decide (l = []) || decide (l.getD (l.length - 1) 0 ≠ 0)) && l.all fun x => decide (0 ≤ x) && decide (x < 1000000000)

theorem natOkB_iff (l : List Int) : natOkB l = true ↔ l.length ≤ 60 ∧ Canon l := by
  have hlast : (l = [] ∨ l.getD (l.length - 1) 0 ≠ 0) ↔ l.getLast? ≠ some 0 := by
    cases l with
    | nil => simp
    | cons x l =>
      have h1 : l.length < (x :: l).length := by simp
      rw [List.getLast?_eq_getElem?, List.getD]
      simp only [List.length_cons, Nat.add_sub_cancel, List.getElem?_eq_getElem h1, Option.getD_some]
      simp
  unfold natOkB Canon Dig
  rw [Bool.and_eq_true, Bool.and_eq_true, Bool.or_eq_true, decide_eq_true_eq, decide_eq_true_eq, decide_eq_true_eq, hlast, List.all_eq_true]
  simp only [Bool.and_eq_true, decide_eq_true_eq]
  constructor
  · rintro ⟨⟨h1, h2⟩, h3⟩; exact ⟨h1, h3, h2⟩
  · rintro ⟨h1, h3, h2⟩; exact ⟨⟨h1, h2⟩, h3⟩

def bigOkB (neg : Bool) (l : List Int) : Bool := natOkB l && !(neg && decide (l = []))

def ratOkB (neg : Bool) (mag den : List Int) : Bool :=
  bigOkB neg mag && natOkB den && !decide (den = []) && decide (mag.length ≤ 24) && decide (den.length ≤ 24) && decide (Nat.gcd (valL mag).toNat (valL den).toNat = 1)

/-- The fraction that a sign and two lists of limbs stand for. -/
def ratOf (neg : Bool) (mag den : List Int) : Fr := if ratOkB neg mag den then some (sgn neg (valL mag).toNat, (valL den).toNat) else none

theorem ratOkB_some {neg : Bool} {mag den : List Int} (h : ratOkB neg mag den = true) : ∃ n d, Good n d ∧ neg = decide (n < 0) ∧ mag = limbs n.natAbs ∧ den = limbs d ∧ ratOf neg mag den = some (n, d) := by
  refine ⟨sgn neg (valL mag).toNat, (valL den).toNat, ?_, ?_, ?_, ?_, by rw [ratOf, if_pos h]⟩ <;>
  simp only [ratOkB, bigOkB, Bool.and_eq_true, natOkB_iff, decide_eq_true_eq, Bool.not_eq_true', decide_eq_false_iff_not, Bool.and_eq_false_iff] at h <;>
  obtain ⟨⟨⟨⟨⟨⟨⟨h1, h2⟩, h3⟩, h4, h5⟩, h6⟩, h7⟩, h8⟩, h9⟩ := h
  · have h10 := h5.pos h6
    refine ⟨by omega, by rw [sgn_natAbs]; exact h9, ?_, ?_⟩
    · rw [sgn_natAbs, ← h2.eq]; exact h7
    · rw [← h5.eq]; exact h8
  · rw [sgn_neg]
    cases neg with
    | false => rfl
    | true =>
      have h10 : mag ≠ [] := by simpa using h3
      have h11 := h2.pos h10
      have : 0 < (valL mag).toNat := by omega
      simp [this]
  · rw [sgn_natAbs, ← h2.eq]
  · rw [← h5.eq]

theorem Good.okB {n : Int} {d : Nat} (h : Good n d) : ratOkB (decide (n < 0)) (limbs n.natAbs) (limbs d) = true := by
  obtain ⟨h1, h2, h3, h4⟩ := h
  simp only [ratOkB, bigOkB, Bool.and_eq_true, natOkB_iff, decide_eq_true_eq, Bool.not_eq_true', decide_eq_false_iff_not, Bool.and_eq_false_iff]
  have hd0 : limbs d ≠ [] := fun h => by have := limbs_nil.1 (by rw [h]; rfl : (limbs d).length = 0); omega
  refine ⟨⟨⟨⟨⟨⟨⟨by omega, Canon_limbs _⟩, ?_⟩, by omega, Canon_limbs _⟩, hd0⟩, h3⟩, h4⟩, by rw [valL_limbs, valL_limbs]; simpa using h2⟩
  by_cases h0 : n < 0
  · right; intro h; have := limbs_nil.1 (by rw [h]; rfl : (limbs n.natAbs).length = 0); omega
  · left; simpa using h0

theorem Good.ratOf {n : Int} {d : Nat} (h : Good n d) : Qqz.ratOf (decide (n < 0)) (limbs n.natAbs) (limbs d) = some (n, d) := by
  rw [Qqz.ratOf, if_pos h.okB, valL_limbs, valL_limbs, Int.toNat_natCast, Int.toNat_natCast, sgn_of]

theorem ratOf_ok (neg : Bool) (mag den : List Int) : (ratOf neg mag den).ok := by
  by_cases h : ratOkB neg mag den = true
  · obtain ⟨n, d, hg, _, _, _, he⟩ := ratOkB_some h
    rw [he]; exact hg
  · rw [ratOf, if_neg h]; trivial

theorem addF_ok {x y : Fr} (hx : x.ok) (hy : y.ok) : (addF x y).ok := by
  match x, y, hx, hy with
  | some (a, b), some (c, d), hx, hy => exact lowF_ok (Nat.mul_pos hx.1 hy.1)
  | none, _, _, _ => trivial
  | some _, none, _, _ => trivial
theorem subF_ok {x y : Fr} (hx : x.ok) (hy : y.ok) : (subF x y).ok := by
  match x, y, hx, hy with
  | some (a, b), some (c, d), hx, hy => exact lowF_ok (Nat.mul_pos hx.1 hy.1)
  | none, _, _, _ => trivial
  | some _, none, _, _ => trivial
theorem mulF_ok {x y : Fr} (hx : x.ok) (hy : y.ok) : (mulF x y).ok := by
  match x, y, hx, hy with
  | some (a, b), some (c, d), hx, hy => exact lowF_ok (Nat.mul_pos hx.1 hy.1)
  | none, _, _, _ => trivial
  | some _, none, _, _ => trivial
theorem negF_ok {x : Fr} (hx : x.ok) : (negF x).ok := by
  match x, hx with
  | some (a, b), hx =>
    refine ⟨hx.1, ?_, ?_⟩
    · rw [Int.natAbs_neg]; exact hx.2.1
    · unfold Fits; rw [Int.natAbs_neg]; exact hx.2.2
  | none, _ => trivial
theorem wholeF_ok {n : Int} (h0 : -9223372036854775808 ≤ n) (h1 : n ≤ 9223372036854775807) : (wholeF n).ok := by
  refine ⟨by omega, Nat.gcd_one_right _, ?_, by rw [limbs_1]; simp⟩
  exact limbs_length_le _ _ (by omega)
theorem subF_eq (x y : Fr) : subF x y = addF x (negF y) := by
  match x, y with
  | some (a, b), some (c, d) => simp only [subF, addF, negF, Int.neg_mul, Int.sub_eq_add_neg]
  | none, some _ => rfl
  | none, none => rfl
  | some _, none => rfl

/-! The first place of a list that meets a condition -/
def idxZ {α : Type} (p : α → Bool) (l : List α) : Int := match l.findIdx? p with | some i => (i : Int) | none => -1
theorem idxZ_ge {α : Type} (p : α → Bool) (l : List α) : decide (0 ≤ idxZ p l) = l.any p := by
  unfold idxZ
  cases h : l.findIdx? p with
  | none =>
    have := List.findIdx?_eq_none_iff.1 h
    have h2 : l.any p = false := by
      rw [List.any_eq_false]; intro x hx; simp [this x hx]
    rw [h2]; rfl
  | some i =>
    obtain ⟨hi, hp, _⟩ := List.findIdx?_eq_some_iff_getElem.1 h
    have h2 : l.any p = true := List.any_eq_true.2 ⟨l[i], List.getElem_mem hi, hp⟩
    rw [h2]; simp
theorem findIdx_drop {α : Type} (p : α → Bool) (l : List α) (i : Nat) (h : i < l.length) (hp : p l[i] = false) : ((l.drop i).findIdx? p).map (· + i) = ((l.drop (i + 1)).findIdx? p).map (· + (i + 1)) := by
  rw [List.drop_eq_getElem_cons h, List.findIdx?_cons, hp]
  simp only [Bool.false_eq_true, if_false, Option.map_map]
  congr 1
  funext k
  simp only [Function.comp]
  omega
end Go.Proofs.Qqz
