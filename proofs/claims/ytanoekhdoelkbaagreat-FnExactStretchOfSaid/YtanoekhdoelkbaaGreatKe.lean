/- Numbers as lists of limbs: the plain facts. -/
import Derived.Test.YtanoekhdoelkbaaGreatTI
set_option linter.unusedSimpArgs false
set_option linter.unusedVariables false
namespace Go.Proofs.Qqz

/-- The number that a list of limbs stands for. -/
def valL : List Int → Int
  | [] => 0
  | x :: l => x + 1000000000 * valL l
def Dig (l : List Int) : Prop := ∀ x ∈ l, 0 ≤ x ∧ x < 1000000000

theorem Dig.nil : Dig [] := by simp [Dig]
theorem Dig.cons {x : Int} {l : List Int} : Dig (x :: l) ↔ (0 ≤ x ∧ x < 1000000000) ∧ Dig l := by simp [Dig]
theorem Dig.append {a b : List Int} : Dig (a ++ b) ↔ Dig a ∧ Dig b := by
  simp only [Dig, List.mem_append]
  exact ⟨fun h => ⟨fun x hx => h x (.inl hx), fun x hx => h x (.inr hx)⟩, fun h x hx => hx.elim (h.1 x) (h.2 x)⟩
theorem Dig.take {l : List Int} (h : Dig l) (n : Nat) : Dig (l.take n) := fun x hx => h x (List.mem_of_mem_take hx)
theorem Dig.drop {l : List Int} (h : Dig l) (n : Nat) : Dig (l.drop n) := fun x hx => h x (List.mem_of_mem_drop hx)
theorem Dig.getD {l : List Int} (h : Dig l) (i : Nat) : 0 ≤ l.getD i 0 ∧ l.getD i 0 < 1000000000 := by
  by_cases hi : i < l.length
  · have : l.getD i 0 = l[i] := by simp [List.getD, hi]
    rw [this]; exact h _ (List.getElem_mem hi)
  · have : l.getD i 0 = 0 := by simp [List.getD, List.getElem?_eq_none (Nat.le_of_not_lt hi)]
    rw [this]; omega

theorem valL_nonneg : ∀ {l : List Int}, Dig l → 0 ≤ valL l
  | [], _ => by simp [valL]
  | x :: l, h => by
    have h' := Dig.cons.1 h
    have := valL_nonneg h'.2
    simp only [valL]; omega

theorem valL_append : ∀ (a b : List Int), valL (a ++ b) = valL a + 1000000000 ^ a.length * valL b
  | [], b => by simp [valL]
  | x :: a, b => by
    simp only [List.cons_append, valL, valL_append a b, List.length_cons, Int.pow_succ]
    rw [Int.mul_add, ← Int.mul_assoc, Int.mul_comm 1000000000 (1000000000 ^ a.length)]
    omega

theorem valL_lt : ∀ {l : List Int}, Dig l → valL l < 1000000000 ^ l.length
  | [], _ => by simp [valL]
  | x :: l, h => by
    have h' := Dig.cons.1 h
    have := valL_lt h'.2
    simp only [valL, List.length_cons, Int.pow_succ]
    omega

/-- The limbs of a number. -/
def limbs (n : Nat) : List Int := if n = 0 then [] else ((n % 1000000000 : Nat) : Int) :: limbs (n / 1000000000)
termination_by n
decreasing_by omega

theorem limbs_zero : limbs 0 = [] := by rw [limbs]; simp
theorem limbs_pos {n : Nat} (h : n ≠ 0) : limbs n = ((n % 1000000000 : Nat) : Int) :: limbs (n / 1000000000) := by rw [limbs]; simp [h]

theorem Dig_limbs (n : Nat) : Dig (limbs n) := by
  induction n using Nat.strongRecOn with
  | ind n ih =>
    by_cases h : n = 0
    · subst h; rw [limbs_zero]; exact Dig.nil
    · rw [limbs_pos h, Dig.cons]
      exact ⟨by omega, ih _ (by omega)⟩

theorem valL_limbs (n : Nat) : valL (limbs n) = n := by
  induction n using Nat.strongRecOn with
  | ind n ih =>
    by_cases h : n = 0
    · subst h; rw [limbs_zero]; rfl
    · rw [limbs_pos h, valL, ih _ (by omega)]
      omega

/-- No leading limb is nought. -/
def Canon (l : List Int) : Prop := Dig l ∧ l.getLast? ≠ some 0

theorem Canon.tail {x : Int} {l : List Int} (h : Canon (x :: l)) : Canon l := by
  refine ⟨(Dig.cons.1 h.1).2, ?_⟩
  cases l with
  | nil => simp
  | cons y l => have := h.2; simpa [List.getLast?_cons_cons] using this

theorem Canon.pos : ∀ {l : List Int}, Canon l → l ≠ [] → 0 < valL l
  | [], _, h => absurd rfl h
  | [x], h, _ => by
    have h1 := Dig.cons.1 h.1
    have h2 : x ≠ 0 := by have := h.2; simpa using this
    simp only [valL]; omega
  | x :: y :: l, h, _ => by
    have h1 := Dig.cons.1 h.1
    have := Canon.pos h.tail (by simp)
    simp only [valL] at this ⊢
    omega

theorem Canon.eq : ∀ {l : List Int}, Canon l → l = limbs (valL l).toNat
  | [], _ => by simp [valL, limbs_zero]
  | x :: l, h => by
    have h1 := (Dig.cons.1 h.1).1
    have h2 := Canon.pos h (by simp)
    have h3 := valL_nonneg h.tail.1
    have h4 := Canon.eq h.tail
    rw [limbs_pos (by omega)]
    simp only [valL] at h2 ⊢
    congr 1
    · omega
    · have : (x + 1000000000 * valL l).toNat / 1000000000 = (valL l).toNat := by omega
      rw [this]; exact h4

theorem Canon_limbs (n : Nat) : Canon (limbs n) := by
  refine ⟨Dig_limbs n, ?_⟩
  induction n using Nat.strongRecOn with
  | ind n ih =>
    by_cases h : n = 0
    · subst h; simp [limbs_zero]
    · rw [limbs_pos h]
      by_cases h2 : n / 1000000000 = 0
      · rw [h2, limbs_zero]; simp; omega
      · have := ih (n / 1000000000) (by omega)
        rw [limbs_pos h2] at this ⊢
        rw [List.getLast?_cons_cons]; exact this

/-- The leading noughts cut off. -/
def trimL (l : List Int) : List Int := if l.getLast? = some 0 then trimL l.dropLast else l
termination_by l.length
decreasing_by
  rename_i h
  have : l ≠ [] := by intro h0; subst h0; simp at h
  have := List.length_pos_iff.2 this
  simp; omega

theorem dropLast_val {l : List Int} (h : l.getLast? = some 0) : valL l.dropLast = valL l := by
  have hne : l ≠ [] := by intro h0; subst h0; simp at h
  have h2 : l.dropLast ++ [0] = l := by
    have h3 := List.dropLast_concat_getLast hne
    rw [List.getLast?_eq_some_getLast hne] at h
    injection h with h
    rw [h] at h3; exact h3
  have := valL_append l.dropLast [0]
  rw [h2] at this
  rw [this]; simp [valL]

theorem trimL_spec (n : Nat) : ∀ l : List Int, l.length ≤ n → Dig l → Canon (trimL l) ∧ valL (trimL l) = valL l ∧ ∃ k, k ≤ l.length ∧ trimL l = l.take k := by
  induction n with
  | zero =>
    intro l hl hd
    have : l = [] := List.eq_nil_of_length_eq_zero (by omega)
    subst this
    rw [trimL]; exact ⟨⟨hd, by simp⟩, rfl, 0, by simp, by simp⟩
  | succ n ih =>
    intro l hl hd
    by_cases h : l.getLast? = some 0
    · have hne : l ≠ [] := by intro h0; subst h0; simp at h
      have hpos := List.length_pos_iff.2 hne
      have e1 : trimL l = trimL l.dropLast := by rw [trimL, if_pos h]
      obtain ⟨h1, h2, k, h3, h4⟩ := ih l.dropLast (by simp; omega) (fun x hx => hd x (List.dropLast_subset _ hx))
      rw [e1]
      refine ⟨h1, h2.trans (dropLast_val h), k, by simp at h3; omega, ?_⟩
      rw [h4, List.dropLast_eq_take, List.take_take]
      congr 1
      simp at h3; omega
    · rw [trimL, if_neg h]
      exact ⟨⟨hd, h⟩, rfl, l.length, by simp, by simp⟩

theorem trimL_eq {l : List Int} (hd : Dig l) : trimL l = limbs (valL l).toNat := by
  obtain ⟨h1, h2, _⟩ := trimL_spec l.length l (Nat.le_refl _) hd
  rw [h1.eq, h2]

theorem trimL_take {l : List Int} (hd : Dig l) : trimL l = l.take (trimL l).length ∧ (trimL l).length ≤ l.length := by
  obtain ⟨h1, h2, k, h3, h4⟩ := trimL_spec l.length l (Nat.le_refl _) hd
  have : (trimL l).length = k := by rw [h4]; simp; omega
  rw [this]; exact ⟨h4, h3⟩

theorem limbs_length_le (n k : Nat) (h : n < 1000000000 ^ k) : (limbs n).length ≤ k := by
  induction k generalizing n with
  | zero => simp at h; subst h; simp [limbs_zero]
  | succ k ih =>
    by_cases h0 : n = 0
    · subst h0; simp [limbs_zero]
    · rw [limbs_pos h0]
      have := ih (n / 1000000000) (by rw [Nat.pow_succ] at h; omega)
      simp; omega

theorem limbs_length_ge (n k : Nat) (h : 1000000000 ^ k ≤ n) : k < (limbs n).length := by
  induction k generalizing n with
  | zero => simp at h; rw [limbs_pos (by omega)]; simp
  | succ k ih =>
    have h0 : n ≠ 0 := by
      have := Nat.pow_pos (n := k + 1) (show 0 < 1000000000 by omega)
      omega
    rw [limbs_pos h0]
    have := ih (n / 1000000000) (by rw [Nat.pow_succ] at h; omega)
    simp; omega

theorem canon_ge : ∀ {l : List Int}, Canon l → l ≠ [] → 1000000000 ^ (l.length - 1) ≤ valL l
  | [], _, h => absurd rfl h
  | [x], h, _ => by have := h.pos (by simp); simp [valL] at this ⊢; omega
  | x :: y :: l, h, _ => by
    have h1 := (Dig.cons.1 h.1).1
    have := canon_ge h.tail (by simp)
    have e1 : (x :: y :: l).length - 1 = ((y :: l).length - 1) + 1 := by simp
    rw [e1, Int.pow_succ, valL]
    omega

theorem B_pow_le {a b : Nat} (h : a ≤ b) : (1000000000 : Int) ^ a ≤ 1000000000 ^ b := by
  obtain ⟨k, rfl⟩ : ∃ k, b = a + k := ⟨b - a, by omega⟩
  clear h
  induction k with
  | zero => exact Int.le_refl _
  | succ k ih =>
    have h1 : (0 : Int) < 1000000000 ^ (a + k) := Int.pow_pos (by omega)
    rw [← Nat.add_assoc, Int.pow_succ]
    omega

theorem valL_lt_of_len {x y : List Int} (hx : Dig x) (hy : Canon y) (h : x.length < y.length) : valL x < valL y := by
  have h1 := valL_lt hx
  have h2 := canon_ge hy (by intro h0; subst h0; simp at h)
  have h3 : (1000000000 : Int) ^ x.length ≤ 1000000000 ^ (y.length - 1) := B_pow_le (by omega)
  omega

theorem valL_split {x : List Int} {t : Nat} (h : t < x.length) : valL x = valL (x.take t) + 1000000000 ^ t * (x.getD t 0 + 1000000000 * valL (x.drop (t + 1))) := by
  have h1 : x = x.take t ++ (x.getD t 0 :: x.drop (t + 1)) := by
    have h2 : x.getD t 0 = x[t] := by simp [List.getD, h]
    rw [h2, ← List.drop_eq_getElem_cons h, List.take_append_drop]
  have h3 := valL_append (x.take t) (x.getD t 0 :: x.drop (t + 1))
  rw [← h1] at h3
  rw [h3, List.length_take, Nat.min_eq_left (by omega), valL]

theorem valL_lt_of_digit {x y : List Int} (hx : Dig x) (hy : Dig y) (hl : x.length = y.length) {t : Nat} (ht : t < x.length) (hd : x.drop (t + 1) = y.drop (t + 1)) (h : x.getD t 0 < y.getD t 0) : valL x < valL y := by
  rw [valL_split ht, valL_split (show t < y.length by omega), hd]
  have h1 := valL_lt (hx.take t)
  have h2 := valL_nonneg (hy.take t)
  rw [List.length_take, Nat.min_eq_left (by omega)] at h1
  have hp : (0 : Int) < 1000000000 ^ t := Int.pow_pos (by omega)
  generalize (1000000000 : Int) ^ t = p at *
  have h3 : p * (x.getD t 0 + 1000000000 * valL (y.drop (t + 1))) + p ≤ p * (y.getD t 0 + 1000000000 * valL (y.drop (t + 1))) := by
    have : p * (x.getD t 0 + 1000000000 * valL (y.drop (t + 1))) + p = p * (x.getD t 0 + 1000000000 * valL (y.drop (t + 1)) + 1) := by rw [Int.mul_add p _ 1, Int.mul_one]
    rw [this]
    exact Int.mul_le_mul_of_nonneg_left (by omega) (by omega)
  omega

/-- Less, equal or more. -/
def cmpZ (a b : Int) : Int := if a < b then -1 else if b < a then 1 else 0
theorem cmpZ_lt {a b : Int} (h : a < b) : cmpZ a b = -1 := by simp [cmpZ, h]
theorem cmpZ_gt {a b : Int} (h : b < a) : cmpZ a b = 1 := by unfold cmpZ; rw [if_neg (by omega), if_pos h]
theorem cmpZ_eq {a b : Int} (h : a = b) : cmpZ a b = 0 := by unfold cmpZ; rw [if_neg (by omega), if_neg (by omega)]

theorem drop_eq_step {x y : List Int} (hl : x.length = y.length) {t : Nat} (ht : t < x.length) (hd : x.drop (t + 1) = y.drop (t + 1)) (h : x.getD t 0 = y.getD t 0) : x.drop t = y.drop t := by
  have hy : t < y.length := by omega
  rw [List.drop_eq_getElem_cons ht, List.drop_eq_getElem_cons hy, hd]
  congr 1
  simpa [List.getD, ht, hy] using h

theorem valL_take_succ (l : List Int) (i : Nat) : valL (l.take (i + 1)) = valL (l.take i) + 1000000000 ^ i * l.getD i 0 := by
  by_cases h : i < l.length
  · have h2 : l.getD i 0 = l[i] := by simp [List.getD, h]
    rw [List.take_succ_eq_append_getElem h, valL_append, List.length_take, Nat.min_eq_left (by omega), h2]
    simp [valL]
  · have h2 : l.getD i 0 = 0 := by simp [List.getD, List.getElem?_eq_none (Nat.le_of_not_lt h)]
    rw [h2, List.take_of_length_le (by omega), List.take_of_length_le (by omega)]
    omega

theorem take_set_succ {l : List Int} {i : Nat} (h : i < l.length) (v : Int) : (l.set i v).take (i + 1) = l.take i ++ [v] := by
  rw [List.take_succ_eq_append_getElem (by simpa using h)]
  simp [List.take_set_of_le]

theorem valL_set {l : List Int} {i : Nat} (h : i < l.length) (v : Int) : valL ((l.set i v).take (i + 1)) = valL (l.take i) + 1000000000 ^ i * v := by
  rw [take_set_succ h, valL_append, List.length_take, Nat.min_eq_left (by omega)]
  simp [valL]

theorem Dig_set {l : List Int} {i : Nat} (h : i < l.length) {v : Int} (hd : Dig (l.take i)) (h0 : 0 ≤ v) (h1 : v < 1000000000) : Dig ((l.set i v).take (i + 1)) := by
  rw [take_set_succ h, Dig.append]
  exact ⟨hd, Dig.cons.2 ⟨⟨h0, h1⟩, Dig.nil⟩⟩

theorem carry_step {P S A D a b c v k : Int} (h : S + P * c = A + D) (hn : a + c + b = v + 1000000000 * k) : (S + P * v) + (P * 1000000000) * k = (A + P * a) + (D + P * b) := by
  have h1 : P * (a + c + b) = P * (v + 1000000000 * k) := by rw [hn]
  rw [Int.mul_add, Int.mul_add, Int.mul_add, Int.mul_left_comm] at h1
  rw [Int.mul_assoc, Int.mul_left_comm]
  omega

theorem tdiv_pos {n : Int} (h : 0 ≤ n) : n.tdiv 1000000000 = n / 1000000000 := Int.tdiv_eq_ediv_of_nonneg h
theorem tmod_pos {n : Int} (h : 0 ≤ n) : n.tmod 1000000000 = n % 1000000000 := Int.tmod_eq_emod_of_nonneg h

/-- A block cut down to what its number needs. -/
theorem cut_block {L : List Int} {n : Nat} (hd : Dig (L.take n)) {v : Nat} (hv : valL (L.take n) = v) : (limbs v).length ≤ L.length ∧ (limbs v).length ≤ n ∧ L.take (limbs v).length = limbs v := by
  have h1 := trimL_take hd
  have h2 := trimL_eq hd
  rw [hv] at h2
  have h3 : ((v : Int)).toNat = v := by omega
  rw [h3] at h2
  rw [h2] at h1
  have h4 := h1.2
  rw [List.length_take] at h4
  refine ⟨by omega, by omega, ?_⟩
  have h5 := h1.1
  rw [List.take_take, Nat.min_eq_left (by omega)] at h5
  exact h5.symm

theorem mulDig {a b : Int} (ha : 0 ≤ a ∧ a < 1000000000) (hb : 0 ≤ b ∧ b < 1000000000) : 0 ≤ a * b ∧ a * b ≤ 999999998000000001 := by
  refine ⟨Int.mul_nonneg ha.1 hb.1, ?_⟩
  have h1 : a * b ≤ 999999999 * b := Int.mul_le_mul_of_nonneg_right (by omega) hb.1
  omega

theorem valL_set_at : ∀ (l : List Int) (k : Nat) (v : Int), k < l.length → valL (l.set k v) = valL l + 1000000000 ^ k * (v - l.getD k 0)
  | [], k, v, h => by simp at h
  | x :: l, 0, v, h => by simp [valL]; omega
  | x :: l, k + 1, v, h => by
    have := valL_set_at l k v (by simpa using h)
    simp only [List.set_cons_succ, valL, this, List.getD_cons_succ, Int.pow_succ]
    grind

theorem Dig.set {l : List Int} (h : Dig l) (k : Nat) {v : Int} (h0 : 0 ≤ v) (h1 : v < 1000000000) : Dig (l.set k v) := by
  intro x hx
  rcases List.mem_or_eq_of_mem_set hx with h2 | rfl
  · exact h x h2
  · exact ⟨h0, h1⟩

theorem getD_set_ne' {l : List Int} {k m : Nat} {v : Int} (h : k ≠ m) : (l.set k v).getD m 0 = l.getD m 0 := by
  simp [List.getD, List.getElem?_set_ne h]

theorem mul_step {V P c A Bv n Pi Bj o r q m Pj : Int} (h : V + P * c = A * Bv + n * (Pi * Bj)) (hn : o + n * m + c = r + 1000000000 * q) (hP : P = Pi * Pj) :
    (V + P * (r - o)) + (P * 1000000000) * q = A * Bv + n * (Pi * (Bj + Pj * m)) := by grind
theorem mul_row {V P c A Bv n Pi : Int} (h : V + P * c = A * Bv + n * (Pi * Bv)) : V + P * (c - 0) = (A + Pi * n) * Bv := by grind

theorem valL_drop {l : List Int} {t : Nat} (h : t < l.length) : valL (l.drop t) = l.getD t 0 + 1000000000 * valL (l.drop (t + 1)) := by
  have h2 : l.getD t 0 = l[t] := by simp [List.getD, h]
  rw [h2, List.drop_eq_getElem_cons h, valL]

theorem drop_set {l : List Int} {t : Nat} (h : t < l.length) (v : Int) : (l.set t v).drop t = v :: l.drop (t + 1) := by
  rw [List.drop_eq_getElem_cons (by simpa using h)]
  simp [List.drop_set_of_lt]

theorem tdiv_pos' {n b : Int} (h : 0 ≤ n) : n.tdiv b = n / b := Int.tdiv_eq_ediv_of_nonneg h
theorem tmod_pos' {n b : Int} (h : 0 ≤ n) : n.tmod b = n % b := Int.tmod_eq_emod_of_nonneg h

theorem div_step {r d b : Int} (hb : 0 < b) (hr : 0 ≤ r ∧ r < b) (hd : 0 ≤ d ∧ d < 1000000000) : 0 ≤ (r * 1000000000 + d) / b ∧ (r * 1000000000 + d) / b < 1000000000 ∧ 0 ≤ (r * 1000000000 + d) % b ∧ (r * 1000000000 + d) % b < b ∧ (r * 1000000000 + d) % b + b * ((r * 1000000000 + d) / b) = r * 1000000000 + d := by
  refine ⟨Int.ediv_nonneg (by omega) (by omega), ?_, Int.emod_nonneg _ (by omega), Int.emod_lt_of_pos _ hb, by rw [Int.add_comm]; exact Int.mul_ediv_add_emod _ _⟩
  refine Int.ediv_lt_of_lt_mul hb ?_
  omega

/-! A stretch of a block, rewritten from below -/

theorem getD_stretch {A D U : List Int} {i : Nat} (hD : D.length = i) (hi : i < U.length) : (A ++ (D ++ U.drop i)).getD (A.length + i) 0 = U.getD i 0 := by
  subst hD
  simp only [List.getD]
  rw [List.getElem?_append_right (by omega), List.getElem?_append_right (by omega), List.getElem?_drop]
  congr 2
  omega

theorem set_stretch {A D U : List Int} {i : Nat} (hD : D.length = i) (hi : i < U.length) (w : Int) : (A ++ (D ++ U.drop i)).set (A.length + i) w = A ++ ((D ++ [w]) ++ U.drop (i + 1)) := by
  subst hD
  rw [List.set_append_right _ _ (by omega), Nat.add_sub_cancel_left, List.set_append_right _ _ (Nat.le_refl _), Nat.sub_self, List.drop_eq_getElem_cons hi, List.set_cons_zero]
  simp

theorem valL_snoc {D : List Int} {i : Nat} (hD : D.length = i) (w : Int) : valL (D ++ [w]) = valL D + 1000000000 ^ i * w := by
  subst hD
  rw [valL_append]; simp [valL]

theorem getD_mid {A D R : List Int} {i : Nat} (hD : D.length = i) (w : Int) : (A ++ (D ++ [w] ++ R)).getD (A.length + i) 0 = w := by
  subst hD
  simp only [List.getD]
  rw [List.getElem?_append_right (by omega), List.append_assoc, List.getElem?_append_right (by omega)]
  have : A.length + D.length - A.length - D.length = 0 := by omega
  rw [this]; rfl
theorem stretch_mid {A D R : List Int} (w : Int) : A ++ (D ++ [w] ++ R) = A ++ (D ++ w :: R) := by simp

theorem limbs_len_mono {a b : Nat} (h : a ≤ b) : (limbs a).length ≤ (limbs b).length := by
  apply Nat.le_of_not_lt
  intro hlt
  have h1 := canon_ge (Canon_limbs a) (by intro h0; rw [h0] at hlt; simp at hlt)
  have h2 := valL_lt (Dig_limbs b)
  rw [valL_limbs] at h1 h2
  have h3 := B_pow_le (a := (limbs b).length) (b := (limbs a).length - 1) (by omega)
  omega

theorem limbs_len_mul {x : List Int} (hx : Dig x) {d : Int} (hd0 : 0 ≤ d) (hd : d < 1000000000) : (limbs (valL x * d).toNat).length ≤ x.length + 1 := by
  have h0 := valL_nonneg hx
  have h1 := valL_lt hx
  have h2 : valL x * d ≤ valL x * 1000000000 := Int.mul_le_mul_of_nonneg_left (by omega) h0
  have h4 := Int.mul_nonneg h0 hd0
  have h3 : valL x * d < 1000000000 ^ (x.length + 1) := by rw [Int.pow_succ]; omega
  apply Nat.le_of_not_lt
  intro hlt
  have h5 := canon_ge (Canon_limbs (valL x * d).toNat) (by intro h0; rw [h0] at hlt; simp at hlt)
  rw [valL_limbs] at h5
  have h6 := B_pow_le (a := x.length + 1) (b := (limbs (valL x * d).toNat).length - 1) (by omega)
  omega
end Go.Proofs.Qqz
namespace Go.Proofs.Qqz

theorem limbs_len_iff (n k : Nat) : (limbs n).length ≤ k ↔ n < 1000000000 ^ k := by
  constructor
  · intro h
    apply Nat.lt_of_not_le
    intro hge
    have := limbs_length_ge n k hge
    omega
  · exact limbs_length_le n k

theorem len_mul {a b i j : Nat} (ha : (limbs a).length ≤ i) (hb : (limbs b).length ≤ j) : (limbs (a * b)).length ≤ i + j := by
  rw [limbs_len_iff] at *
  rw [Nat.pow_add]
  exact Nat.mul_lt_mul'' ha hb

theorem len_add {a b i : Nat} (ha : (limbs a).length ≤ i) (hb : (limbs b).length ≤ i) : (limbs (a + b)).length ≤ i + 1 := by
  rw [limbs_len_iff] at *
  rw [Nat.pow_succ]
  omega

theorem len_le {a b i : Nat} (h : a ≤ b) (hb : (limbs b).length ≤ i) : (limbs a).length ≤ i := Nat.le_trans (limbs_len_mono h) hb

theorem limbs_one {n : Nat} (h0 : 0 < n) (h : n < 1000000000) : limbs n = [(n : Int)] := by
  rw [limbs_pos (by omega)]
  have h1 : n / 1000000000 = 0 := by omega
  have h2 : n % 1000000000 = n := by omega
  rw [h1, h2, limbs_zero]

theorem limbs_1 : limbs 1 = [1] := limbs_one (by omega) (by omega)

theorem limbs_nil {n : Nat} : (limbs n).length = 0 ↔ n = 0 := by
  constructor
  · intro h
    apply Decidable.byContradiction
    intro h0
    rw [limbs_pos h0] at h; simp at h
  · rintro rfl; rw [limbs_zero]; rfl

theorem limbs_len_pos {n : Nat} (h : 0 < n) : 0 < (limbs n).length := by
  have := mt (limbs_nil (n := n)).1 (by omega)
  omega

theorem limbs_inj {a b : Nat} (h : limbs a = limbs b) : a = b := by
  have h1 := valL_limbs a
  rw [h, valL_limbs] at h1
  omega

/-- A sign and a magnitude. -/
def sgn (neg : Bool) (m : Nat) : Int := if neg then -(m : Int) else m
theorem sgn_natAbs (neg : Bool) (m : Nat) : (sgn neg m).natAbs = m := by cases neg <;> simp [sgn]
theorem sgn_neg (neg : Bool) (m : Nat) : decide (sgn neg m < 0) = (neg && decide (0 < m)) := by
  cases neg
  · simp [sgn]
  · have : (sgn true m < 0) ↔ 0 < m := by simp [sgn]
    simp [this]
theorem sgn_of (n : Int) : sgn (decide (n < 0)) n.natAbs = n := by
  unfold sgn
  split <;> rename_i h <;> simp at h <;> omega
theorem sgn_mul (a b : Int) : sgn (decide (a < 0) != decide (b < 0)) (a.natAbs * b.natAbs) = a * b := by
  have ha := sgn_of a
  have hb := sgn_of b
  generalize a.natAbs = m at *
  generalize decide (a < 0) = s at *
  generalize b.natAbs = k at *
  generalize decide (b < 0) = t at *
  subst ha hb
  cases s <;> cases t <;> simp [sgn, Int.neg_mul, Int.mul_neg]
theorem sgn_scale (a : Int) (d : Nat) : sgn (decide (a < 0)) (a.natAbs * d) = a * d := by
  have h := sgn_of a
  generalize a.natAbs = m at *
  generalize decide (a < 0) = s at *
  subst h
  cases s <;> simp [sgn, Int.neg_mul]

/-- A fraction in lowest terms: numerator and denominator divided by what they share. -/
def lowN (n : Int) (d : Nat) : Int := sgn (decide (n < 0)) (n.natAbs / Nat.gcd n.natAbs d)
def lowD (n : Int) (d : Nat) : Nat := d / Nat.gcd n.natAbs d
/-- Numerator and denominator have few enough limbs. -/
def Fits (n : Int) (d : Nat) : Prop := (limbs n.natAbs).length ≤ 24 ∧ (limbs d).length ≤ 24
instance (n : Int) (d : Nat) : Decidable (Fits n d) := inferInstanceAs (Decidable (_ ∧ _))
/-- A valid fraction. -/
def Good (n : Int) (d : Nat) : Prop := 0 < d ∧ Nat.gcd n.natAbs d = 1 ∧ Fits n d

theorem lowN_natAbs (n : Int) (d : Nat) : (lowN n d).natAbs = n.natAbs / Nat.gcd n.natAbs d := sgn_natAbs _ _
theorem low_gcd {n : Int} {d : Nat} (h : 0 < d) : Nat.gcd (lowN n d).natAbs (lowD n d) = 1 := by
  rw [lowN_natAbs, lowD]
  exact Nat.coprime_div_gcd_div_gcd (Nat.gcd_pos_of_pos_right _ h)
theorem lowD_pos {n : Int} {d : Nat} (h : 0 < d) : 0 < lowD n d := Nat.div_pos (Nat.gcd_le_right _ h) (Nat.gcd_pos_of_pos_right _ h)

/-- A fraction that is not too large, or none. -/
abbrev Fr := Option (Int × Nat)
def Fr.ok : Fr → Prop
  | none => True
  | some (n, d) => Good n d
def lowF (n : Int) (d : Nat) : Fr := if Fits (lowN n d) (lowD n d) then some (lowN n d, lowD n d) else none
theorem lowF_ok {n : Int} {d : Nat} (h : 0 < d) : (lowF n d).ok := by
  unfold lowF; split
  · exact ⟨lowD_pos h, low_gcd h, by assumption⟩
  · trivial
def addF : Fr → Fr → Fr
  | some (a, b), some (c, d) => lowF (a * d + c * b) (b * d)
  | _, _ => none
def subF : Fr → Fr → Fr
  | some (a, b), some (c, d) => lowF (a * d - c * b) (b * d)
  | _, _ => none
def mulF : Fr → Fr → Fr
  | some (a, b), some (c, d) => lowF (a * c) (b * d)
  | _, _ => none
def negF : Fr → Fr
  | some (a, b) => some (-a, b)
  | none => none
def wholeF (n : Int) : Fr := some (n, 1)


/-! Which lists and fractions are valid -/

def natOkB (l : List Int) : Bool := decide (l.length ≤ 60) && (decide (l = []) || decide (l.getD (l.length - 1) 0 ≠ 0)) && l.all fun x => decide (0 ≤ x) && decide (x < 1000000000)

theorem natOkB_iff (l : List Int) : natOkB l = true ↔ l.length ≤ 60 ∧ Canon l := by
  have hlast : (l = [] ∨ l.getD (l.length - 1) 0 ≠ 0) ↔ l.getLast? ≠ some 0 := by
    cases l with
    | nil => simp
    | cons x l =>
      have h1 : l.length < (x :: l).length := by simp
      rw [List.getLast?_eq_getElem?, List.getD]
      simp only [List.length_cons, Nat.add_sub_cancel, List.getElem?_eq_getElem h1, Option.getD_some]
      simp
  unfold natOkB Canon Dig
  rw [Bool.and_eq_true, Bool.and_eq_true, Bool.or_eq_true, decide_eq_true_eq, decide_eq_true_eq, decide_eq_true_eq, hlast, List.all_eq_true]
  simp only [Bool.and_eq_true, decide_eq_true_eq]
  constructor
  · rintro ⟨⟨h1, h2⟩, h3⟩; exact ⟨h1, h3, h2⟩
  · rintro ⟨h1, h3, h2⟩; exact ⟨⟨h1, h2⟩, h3⟩

def bigOkB (neg : Bool) (l : List Int) : Bool := natOkB l && !(neg && decide (l = []))

def ratOkB (neg : Bool) (mag den : List Int) : Bool :=
  bigOkB neg mag && natOkB den && !decide (den = []) && decide (mag.length ≤ 24) && decide (den.length ≤ 24) && decide (Nat.gcd (valL mag).toNat (valL den).toNat = 1)

/-- The fraction that a sign and two lists of limbs stand for. -/
def ratOf (neg : Bool) (mag den : List Int) : Fr := if ratOkB neg mag den then some (sgn neg (valL mag).toNat, (valL den).toNat) else none

theorem ratOkB_some {neg : Bool} {mag den : List Int} (h : ratOkB neg mag den = true) : ∃ n d, Good n d ∧ neg = decide (n < 0) ∧ mag = limbs n.natAbs ∧ den = limbs d ∧ ratOf neg mag den = some (n, d) := by
  refine ⟨sgn neg (valL mag).toNat, (valL den).toNat, ?_, ?_, ?_, ?_, by rw [ratOf, if_pos h]⟩ <;>
  simp only [ratOkB, bigOkB, Bool.and_eq_true, natOkB_iff, decide_eq_true_eq, Bool.not_eq_true', decide_eq_false_iff_not, Bool.and_eq_false_iff] at h <;>
  obtain ⟨⟨⟨⟨⟨⟨⟨h1, h2⟩, h3⟩, h4, h5⟩, h6⟩, h7⟩, h8⟩, h9⟩ := h
  · have h10 := h5.pos h6
    refine ⟨by omega, by rw [sgn_natAbs]; exact h9, ?_, ?_⟩
    · rw [sgn_natAbs, ← h2.eq]; exact h7
    · rw [← h5.eq]; exact h8
  · rw [sgn_neg]
    cases neg with
    | false => rfl
    | true =>
      have h10 : mag ≠ [] := by simpa using h3
      have h11 := h2.pos h10
      have : 0 < (valL mag).toNat := by omega
      simp [this]
  · rw [sgn_natAbs, ← h2.eq]
  · rw [← h5.eq]

theorem Good.okB {n : Int} {d : Nat} (h : Good n d) : ratOkB (decide (n < 0)) (limbs n.natAbs) (limbs d) = true := by
  obtain ⟨h1, h2, h3, h4⟩ := h
  simp only [ratOkB, bigOkB, Bool.and_eq_true, natOkB_iff, decide_eq_true_eq, Bool.not_eq_true', decide_eq_false_iff_not, Bool.and_eq_false_iff]
  have hd0 : limbs d ≠ [] := fun h => by have := limbs_nil.1 (by rw [h]; rfl : (limbs d).length = 0); omega
  refine ⟨⟨⟨⟨⟨⟨⟨by omega, Canon_limbs _⟩, ?_⟩, by omega, Canon_limbs _⟩, hd0⟩, h3⟩, h4⟩, by rw [valL_limbs, valL_limbs]; simpa using h2⟩
  by_cases h0 : n < 0
  · right; intro h; have := limbs_nil.1 (by rw [h]; rfl : (limbs n.natAbs).length = 0); omega
  · left; simpa using h0

theorem Good.ratOf {n : Int} {d : Nat} (h : Good n d) : Qqz.ratOf (decide (n < 0)) (limbs n.natAbs) (limbs d) = some (n, d) := by
  rw [Qqz.ratOf, if_pos h.okB, valL_limbs, valL_limbs, Int.toNat_natCast, Int.toNat_natCast, sgn_of]

theorem ratOf_ok (neg : Bool) (mag den : List Int) : (ratOf neg mag den).ok := by
  by_cases h : ratOkB neg mag den = true
  · obtain ⟨n, d, hg, _, _, _, he⟩ := ratOkB_some h
    rw [he]; exact hg
  · rw [ratOf, if_neg h]; trivial

theorem addF_ok {x y : Fr} (hx : x.ok) (hy : y.ok) : (addF x y).ok := by
  match x, y, hx, hy with
  | some (a, b), some (c, d), hx, hy => exact lowF_ok (Nat.mul_pos hx.1 hy.1)
  | none, _, _, _ => trivial
  | some _, none, _, _ => trivial
theorem subF_ok {x y : Fr} (hx : x.ok) (hy : y.ok) : (subF x y).ok := by
  match x, y, hx, hy with
  | some (a, b), some (c, d), hx, hy => exact lowF_ok (Nat.mul_pos hx.1 hy.1)
  | none, _, _, _ => trivial
  | some _, none, _, _ => trivial
theorem mulF_ok {x y : Fr} (hx : x.ok) (hy : y.ok) : (mulF x y).ok := by
  match x, y, hx, hy with
  | some (a, b), some (c, d), hx, hy => exact lowF_ok (Nat.mul_pos hx.1 hy.1)
  | none, _, _, _ => trivial
  | some _, none, _, _ => trivial
theorem negF_ok {x : Fr} (hx : x.ok) : (negF x).ok := by
  match x, hx with
  | some (a, b), hx =>
    refine ⟨hx.1, ?_, ?_⟩
    · rw [Int.natAbs_neg]; exact hx.2.1
    · unfold Fits; rw [Int.natAbs_neg]; exact hx.2.2
  | none, _ => trivial
theorem wholeF_ok {n : Int} (h0 : -9223372036854775808 ≤ n) (h1 : n ≤ 9223372036854775807) : (wholeF n).ok := by
  refine ⟨by omega, Nat.gcd_one_right _, ?_, by rw [limbs_1]; simp⟩
  exact limbs_length_le _ _ (by omega)
theorem subF_eq (x y : Fr) : subF x y = addF x (negF y) := by
  match x, y with
  | some (a, b), some (c, d) => simp only [subF, addF, negF, Int.neg_mul, Int.sub_eq_add_neg]
  | none, some _ => rfl
  | none, none => rfl
  | some _, none => rfl

/-! The first place of a list that meets a condition -/
def idxZ {α : Type} (p : α → Bool) (l : List α) : Int := match l.findIdx? p with | some i => (i : Int) | none => -1
theorem idxZ_ge {α : Type} (p : α → Bool) (l : List α) : decide (0 ≤ idxZ p l) = l.any p := by
  unfold idxZ
  cases h : l.findIdx? p with
  | none =>
    have := List.findIdx?_eq_none_iff.1 h
    have h2 : l.any p = false := by
      rw [List.any_eq_false]; intro x hx; simp [this x hx]
    rw [h2]; rfl
  | some i =>
    obtain ⟨hi, hp, _⟩ := List.findIdx?_eq_some_iff_getElem.1 h
    have h2 : l.any p = true := List.any_eq_true.2 ⟨l[i], List.getElem_mem hi, hp⟩
    rw [h2]; simp
theorem findIdx_drop {α : Type} (p : α → Bool) (l : List α) (i : Nat) (h : i < l.length) (hp : p l[i] = false) : ((l.drop i).findIdx? p).map (· + i) = ((l.drop (i + 1)).findIdx? p).map (· + (i + 1)) := by
  rw [List.drop_eq_getElem_cons h, List.findIdx?_cons, hp]
  simp only [Bool.false_eq_true, if_false, Option.map_map]
  congr 1
  funext k
  simp only [Function.comp]
  omega
end Go.Proofs.Qqz
namespace Go.Proofs.Qqz
open Go
section
variable {P : Program} {w : World} {A : Nat → Prop} {ι : Owns} {σ : St} {e : Env} {K : KT}
/-- Nil slices behind an address read as empty ones. -/
def nlP : AV → AV
  | .pa row c => .pa (row.map (nlV 3)) c
  | x => x

theorem nlP_VR {n : Nat} {v : Value} {x : AV} (h : VR w A ι n v x) : VR w A ι n v (nlP x) := by
  cases h with
  | pa cv hA hc h =>
    refine .pa cv hA (fun j a hj => ?_) (fun j a hj => ?_)
    · rw [List.getElem?_map] at hj
      cases hr : (_ : List AV)[j]? with
      | none => rw [hr] at hj; cases hj
      | some b => exact hc j b hr
    · rw [List.getElem?_map] at hj
      cases hr : (_ : List AV)[j]? with
      | none => rw [hr] at hj; cases hj
      | some b =>
        rw [hr] at hj
        cases hj
        exact nlV_VR 3 _ _ (h j b hr)
  | any => exact .any
  | lit => exact .lit
  | agg vs l hl h => exact .agg vs l hl h
  | tup vs l hl h => exact .tup vs l hl h
  | clo vs l hl h => exact .clo vs l hl h
  | psz => exact .psz
  | ps wd cv hcap hA hwd hc h => exact .ps wd cv hcap hA hwd hc h
  | os hn hv hcap hl => exact .os hn hv hcap hl
  | osz hn => exact .osz hn
  | ptr hn hv => exact .ptr hn hv

theorem ACall.nlP {f : FuncId} {args : List AV} (h : ACall P f args e σ (fun v e σ => K (Qqz.nlP v) e σ)) : ACall P f args e σ K := by
  refine ⟨h.1, fun w A ι vs hr hvs => (h.2 w A ι vs hr hvs).mono ?_⟩
  rintro en w' ⟨v, h1, A', ι', σ', av, g1, g2, g4, hK⟩
  exact ⟨v, h1, A', ι', σ', _, g1, g2, nlP_VR g4, hK⟩

end
end Go.Proofs.Qqz
