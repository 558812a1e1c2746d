/- Contracts: the columns of a force program, and densities from their values. -/
import Derived.Test.YtanoekhdoelkbaaGreatKh
import Derived.Test.YtanoekhdoelkbaaGreatStj
set_option linter.unusedSimpArgs false
set_option linter.unusedVariables false
namespace Go.Proofs.Qqz
open Go

def kindOf (v : SV) (k : Nat) : Int := (v.members.getD k default).kind
def memCols (v : SV) (k : Nat) : List (Nat × Int) := (if kindOf v k = 2 then [] else [(k, 1)]) ++ (if kindOf v k = 1 then [] else [(k, -1)])
def colsTo (v : SV) : Nat → List (Nat × Int)
  | 0 => []
  | i + 1 => colsTo v i ++ memCols v i
def cN (v : SV) (i : Nat) : Nat := (colsTo v i).length
def colsAll (v : SV) : List (Nat × Int) := colsTo v v.members.length
theorem kind_cases {v : SV} (F : SFacts v) {k : Nat} (h : k < v.members.length) : kindOf v k = 1 ∨ kindOf v k = 2 ∨ kindOf v k = 3 := by
  obtain ⟨_, _, h1, h2⟩ := F.m k h
  unfold kindOf
  omega
theorem memCols_1 {v : SV} {k : Nat} (h : kindOf v k = 1) : memCols v k = [(k, 1)] := by simp [memCols, h]
theorem memCols_2 {v : SV} {k : Nat} (h : kindOf v k = 2) : memCols v k = [(k, -1)] := by simp [memCols, h]
theorem memCols_3 {v : SV} {k : Nat} (h : kindOf v k = 3) : memCols v k = [(k, 1), (k, -1)] := by simp [memCols, h]
theorem cN_succ (v : SV) (i : Nat) : cN v (i + 1) = cN v i + (memCols v i).length := by simp [cN, colsTo]
theorem cN_le (v : SV) {i j : Nat} (h : i ≤ j) : cN v i ≤ cN v j := by
  induction j with
  | zero => have : i = 0 := by omega
            subst this; exact Nat.le_refl _
  | succ j ih =>
    by_cases hij : i = j + 1
    · subst hij; exact Nat.le_refl _
    · have := ih (by omega)
      rw [cN_succ]; omega
theorem memCols_len (v : SV) (k : Nat) : (memCols v k).length ≤ 2 := by
  unfold memCols; split <;> split <;> simp
theorem cN_bound (v : SV) : ∀ i, cN v i ≤ 2 * i
  | 0 => by simp [cN, colsTo]
  | i + 1 => by have := cN_bound v i; have := memCols_len v i; rw [cN_succ]; omega

/-- The column at place c. -/
theorem col_at {v : SV} (F : SFacts v) : ∀ (n c : Nat), n ≤ v.members.length → c < cN v n → ∃ k, k < n ∧ cN v k ≤ c ∧ c < cN v (k + 1) ∧ (colsTo v n)[c]? = some (k, if kindOf v k = 2 then -1 else if c = cN v k then 1 else -1)
  | 0, c, _, h => by simp [cN, colsTo] at h
  | n + 1, c, hn, h => by
    by_cases hc : c < cN v n
    · obtain ⟨k, h1, h2, h3, h4⟩ := col_at F n c (by omega) hc
      refine ⟨k, by omega, h2, h3, ?_⟩
      rw [colsTo, List.getElem?_append_left hc]; exact h4
    · refine ⟨n, by omega, by omega, h, ?_⟩
      rw [colsTo, List.getElem?_append_right (by unfold cN at hc; omega)]
      rw [cN_succ] at h
      have hsub : c - (colsTo v n).length = c - cN v n := rfl
      rw [hsub]
      rcases kind_cases F (show n < v.members.length by omega) with hk | hk | hk
      · rw [memCols_1 hk] at h ⊢
        have : c = cN v n := by simp at h; omega
        subst this
        simp [hk]
      · rw [memCols_2 hk] at h ⊢
        have : c = cN v n := by simp at h; omega
        subst this
        simp [hk]
      · rw [memCols_3 hk] at h ⊢
        by_cases hcc : c = cN v n
        · subst hcc; simp [hk]
        · have : c = cN v n + 1 := by simp at h; omega
          subst this
          simp [hk]

/-- What stands at a member when the first c columns are taken. -/
def outF (v : SV) (X : Nat → Fr) (c k : Nat) : Fr :=
  if c ≤ cN v k then none else if kindOf v k = 1 then X (cN v k) else if kindOf v k = 2 then negF (X (cN v k)) else if c = cN v k + 1 then X (cN v k) else subF (X (cN v k)) (X (cN v k + 1))

theorem outF_other {v : SV} (F : SFacts v) (X : Nat → Fr) {c k j : Nat} (hk : k < v.members.length) (hj : j < v.members.length) (h1 : cN v k ≤ c) (h2 : c < cN v (k + 1)) (hne : j ≠ k) : outF v X (c + 1) j = outF v X c j := by
  unfold outF
  rcases Nat.lt_or_gt_of_ne hne with h | h
  · have h3 := cN_le v (show j + 1 ≤ k by omega)
    rw [cN_succ] at h3
    rcases kind_cases F hj with hk | hk | hk
    · rw [memCols_1 hk] at h3
      simp only [List.length_cons, List.length_nil] at h3
      rw [if_neg (show ¬ c + 1 ≤ cN v j by omega), if_neg (show ¬ c ≤ cN v j by omega), if_pos hk, if_pos hk]
    · rw [memCols_2 hk] at h3
      simp only [List.length_cons, List.length_nil] at h3
      have hk1 : ¬ kindOf v j = 1 := by omega
      rw [if_neg (show ¬ c + 1 ≤ cN v j by omega), if_neg (show ¬ c ≤ cN v j by omega), if_neg hk1, if_neg hk1, if_pos hk, if_pos hk]
    · rw [memCols_3 hk] at h3
      simp only [List.length_cons, List.length_nil] at h3
      have hk1 : ¬ kindOf v j = 1 := by omega
      have hk2 : ¬ kindOf v j = 2 := by omega
      rw [if_neg (show ¬ c + 1 ≤ cN v j by omega), if_neg (show ¬ c ≤ cN v j by omega), if_neg hk1, if_neg hk1, if_neg hk2, if_neg hk2, if_neg (show ¬ c + 1 = cN v j + 1 by omega), if_neg (show ¬ c = cN v j + 1 by omega)]
  · have h3 := cN_le v (show k + 1 ≤ j by omega)
    rw [if_pos (by omega), if_pos (by omega)]
theorem outF_here {v : SV} (F : SFacts v) (X : Nat → Fr) {c k : Nat} (hk : k < v.members.length) (h1 : cN v k ≤ c) (h2 : c < cN v (k + 1)) :
    (kindOf v k = 1 ∧ c = cN v k ∧ outF v X c k = none ∧ outF v X (c + 1) k = X c) ∨ (kindOf v k = 2 ∧ c = cN v k ∧ outF v X c k = none ∧ outF v X (c + 1) k = negF (X c)) ∨
    (kindOf v k = 3 ∧ c = cN v k ∧ outF v X c k = none ∧ outF v X (c + 1) k = X c) ∨ (kindOf v k = 3 ∧ c = cN v k + 1 ∧ outF v X c k = X (cN v k) ∧ outF v X (c + 1) k = subF (X (cN v k)) (X c)) := by
  rw [cN_succ] at h2
  unfold outF
  rcases kind_cases F hk with hk | hk | hk
  · rw [memCols_1 hk] at h2
    simp only [List.length_cons, List.length_nil] at h2
    have : c = cN v k := by omega
    subst this
    left
    refine ⟨hk, rfl, by rw [if_pos (by omega)], by rw [if_neg (by omega), if_pos hk]⟩
  · rw [memCols_2 hk] at h2
    simp only [List.length_cons, List.length_nil] at h2
    have : c = cN v k := by omega
    subst this
    right; left
    refine ⟨hk, rfl, by rw [if_pos (by omega)], by rw [if_neg (by omega), if_neg (by omega), if_pos hk]⟩
  · rw [memCols_3 hk] at h2
    simp only [List.length_cons, List.length_nil] at h2
    right; right
    by_cases hc : c = cN v k
    · subst hc
      left
      refine ⟨hk, rfl, by rw [if_pos (by omega)], by rw [if_neg (by omega), if_neg (by omega), if_neg (by omega), if_pos rfl]⟩
    · have : c = cN v k + 1 := by omega
      subst this
      right
      refine ⟨hk, rfl, by rw [if_neg (by omega), if_neg (by omega), if_neg (by omega), if_pos rfl], by rw [if_neg (by omega), if_neg (by omega), if_neg (by omega), if_neg (by omega)]⟩

def colRow (c : Nat × Int) : List AV := [.lit (.int .i64 (c.1 : Nat)), .lit (.int .i64 c.2)]
theorem colRow_eq (c : Nat × Int) : colRow c = [.lit (.int .i64 (c.1 : Nat)), .lit (.int .i64 c.2)] := rfl
@[go_sem] theorem appB_col (e : Env) (σ : St) (K : KT) (id len : Nat) (l : List (Nat × Int)) (i : Nat) (s : Int) (ne : Prop) (j : TI) (h : len ≤ l.length) : appB (bl colRow 2 l) id len [[.lit (.int .i64 (i : Nat)), .lit (.int .i64 s)]] ne j e σ K = (2 = j.cells ∧ ne ∧ K (.os σ.n 0 (len + 1)) e ((σ.put id .dead).new (bl colRow 2 (l.take len ++ [(i, s)])))) :=
  appB_row e σ K colRow 2 id len l (i, s) _ rfl ne j h

theorem appB_colf (e : Env) (σ : St) (K : KT) (id : Nat) (i i' : Nat) (s s' : Int) (ne : Prop) (j : TI) : appB (.flat 2 [[.lit (.int .i64 (i : Nat)), .lit (.int .i64 s)]]) id 1 [[.lit (.int .i64 (i' : Nat)), .lit (.int .i64 s')]] ne j e σ K = (2 = j.cells ∧ ne ∧ K (.os σ.n 0 (1 + 1)) e ((σ.put id .dead).new (bl colRow 2 [(i, s), (i', s')]))) :=
  appB_col e σ K id 1 [(i, s)] i' s' ne j (by simp)

set_option maxRecDepth 100000 in
set_option maxHeartbeats 1000000 in
theorem columns_ok (v : SV) (F : SFacts v) (k0 : Nat) (e : Env) (σ : St) (hk0 : k0 < σ.n) (hB0 : σ.h k0 = .deep 2 (structRows v)) (K : KT) (h : K (sl colRow (colsAll v)) e σ) : ACall Tryz.prog 83 [.ptr k0 0 0] e σ K := by
  unfold structRows at hB0
  have hnm := F.nm
  refine ACall.pureW Tryz.func83 rfl Tryz.ntmps83 Tryz.results83 rfl rfl rfl ?_
  simp -implicitDefEqProofs (disch := (first | omega | (simp only [go_sem] <;> omega) | fail)) only [go_sem, simprocAttr, hB0]
  refine Sat.loopW (fun (t : Nat) e' σ' => ∃ i, t = v.members.length - i ∧ i ≤ v.members.length ∧ e' 9 = sl memRow v.members ∧ e' 10 = .lit (.int .i64 v.members.length) ∧ e' 11 = .lit (.int .i64 (i : Nat)) ∧ Old σ σ' ∧ ((e' 3 = .lit (.slice none 0 0) ∧ colsTo v i = []) ∨ ∃ k, e' 3 = .os k 0 (colsTo v i).length ∧ σ.n ≤ k ∧ k < σ'.n ∧ σ'.h k = bl colRow 2 (colsTo v i))) (fun t => t) v.members.length rfl ?_ ?_
  · simp -implicitDefEqProofs (disch := (first | omega | (simp only [go_sem] <;> omega) | fail)) only [go_sem, simprocAttr]
    exact ⟨0, by omega, by omega, rfl, .inl rfl⟩
  rintro t e1 σ1 ⟨i, rfl, hi, h9, h10, h11, hO, hcase⟩
  have hOn := hO.1
  have hcb := cN_bound v i
  unfold cN at hcb
  have htk : (colsTo v i).take (colsTo v i).length = colsTo v i := List.take_of_length_le (Nat.le_refl _)
  by_cases hlt : i < v.members.length
  · have hlt' : (i : Int) < v.members.length := by omega
    obtain ⟨m, hm⟩ : ∃ m, v.members.getD i default = m := ⟨_, rfl⟩
    have hkm : kindOf v i = m.kind := by unfold kindOf; rw [hm]
    have hs : colsTo v (i + 1) = colsTo v i ++ memCols v i := rfl
    have htk2 : (colsTo v i ++ [(i, (1 : Int))]).take ((colsTo v i).length + 1) = colsTo v i ++ [(i, 1)] := List.take_of_length_le (by simp)
    rcases kind_cases F hlt with hk | hk | hk
    · skip
      rw [memCols_1 hk] at hs
      rw [hkm] at hk
      rcases hcase with ⟨h3, hnil⟩ | ⟨k, h3, hk0, hkn, hB⟩
      · rw [hnil] at hs
        simp -implicitDefEqProofs (disch := (first | omega | (simp only [go_sem] <;> omega) | fail)) only [go_sem, simprocAttr, h3, h9, h10, h11, hlt', hm, memRow_eq, hk, wrap_i64, appB_colf]
        first
        | (refine ⟨v.members.length - (i + 1), by omega, i + 1, rfl, by omega, rfl, by simp -implicitDefEqProofs (disch := (first | omega | (simp only [go_sem] <;> omega) | fail)) only [go_sem, simprocAttr, hO], .inr ?_⟩
           rw [hs]
           exact ⟨_, rfl, by omega, (by first | omega | (simp -implicitDefEqProofs (disch := (first | omega | (simp only [go_sem] <;> omega) | fail)) only [go_sem, simprocAttr]; omega)), by simp -implicitDefEqProofs (disch := (first | omega | (simp only [go_sem] <;> omega) | fail)) only [go_sem, simprocAttr]; rfl⟩)
        | (refine ⟨by omega, v.members.length - (i + 1), by omega, i + 1, rfl, by omega, rfl, by simp -implicitDefEqProofs (disch := (first | omega | (simp only [go_sem] <;> omega) | fail)) only [go_sem, simprocAttr, hO], .inr ?_⟩
           rw [hs]
           exact ⟨_, rfl, by omega, (by first | omega | (simp -implicitDefEqProofs (disch := (first | omega | (simp only [go_sem] <;> omega) | fail)) only [go_sem, simprocAttr]; omega)), by simp -implicitDefEqProofs (disch := (first | omega | (simp only [go_sem] <;> omega) | fail)) only [go_sem, simprocAttr]; rfl⟩)
      · simp -implicitDefEqProofs (disch := (first | omega | (simp only [go_sem] <;> omega) | fail)) only [go_sem, simprocAttr, h3, h9, h10, h11, hlt', hm, memRow_eq, hk, hB, htk, htk2, wrap_i64]
        first
        | exact ⟨by omega, v.members.length - (i + 1), by omega, i + 1, rfl, by omega, rfl, hO, .inr ⟨σ1.n + 1 + 1, by rw [hs]; simp, by omega, (by first | omega | (simp -implicitDefEqProofs (disch := (first | omega | (simp only [go_sem] <;> omega) | fail)) only [go_sem, simprocAttr]; omega)), by rw [hs]; simp -implicitDefEqProofs (disch := (first | omega | (simp only [go_sem] <;> omega) | fail)) only [go_sem, simprocAttr]⟩⟩
        | exact ⟨by omega, by omega, v.members.length - (i + 1), by omega, i + 1, rfl, by omega, rfl, hO, .inr ⟨σ1.n + 1 + 1 + 1 + 1, by rw [hs]; simp, by omega, (by first | omega | (simp -implicitDefEqProofs (disch := (first | omega | (simp only [go_sem] <;> omega) | fail)) only [go_sem, simprocAttr]; omega)), by rw [hs]; simp -implicitDefEqProofs (disch := (first | omega | (simp only [go_sem] <;> omega) | fail)) only [go_sem, simprocAttr, List.append_assoc, List.singleton_append]⟩⟩
    · skip
      rw [memCols_2 hk] at hs
      rw [hkm] at hk
      rcases hcase with ⟨h3, hnil⟩ | ⟨k, h3, hk0, hkn, hB⟩
      · rw [hnil] at hs
        simp -implicitDefEqProofs (disch := (first | omega | (simp only [go_sem] <;> omega) | fail)) only [go_sem, simprocAttr, h3, h9, h10, h11, hlt', hm, memRow_eq, hk, wrap_i64, appB_colf]
        first
        | (refine ⟨v.members.length - (i + 1), by omega, i + 1, rfl, by omega, rfl, by simp -implicitDefEqProofs (disch := (first | omega | (simp only [go_sem] <;> omega) | fail)) only [go_sem, simprocAttr, hO], .inr ?_⟩
           rw [hs]
           exact ⟨_, rfl, by omega, (by first | omega | (simp -implicitDefEqProofs (disch := (first | omega | (simp only [go_sem] <;> omega) | fail)) only [go_sem, simprocAttr]; omega)), by simp -implicitDefEqProofs (disch := (first | omega | (simp only [go_sem] <;> omega) | fail)) only [go_sem, simprocAttr]; rfl⟩)
        | (refine ⟨by omega, v.members.length - (i + 1), by omega, i + 1, rfl, by omega, rfl, by simp -implicitDefEqProofs (disch := (first | omega | (simp only [go_sem] <;> omega) | fail)) only [go_sem, simprocAttr, hO], .inr ?_⟩
           rw [hs]
           exact ⟨_, rfl, by omega, (by first | omega | (simp -implicitDefEqProofs (disch := (first | omega | (simp only [go_sem] <;> omega) | fail)) only [go_sem, simprocAttr]; omega)), by simp -implicitDefEqProofs (disch := (first | omega | (simp only [go_sem] <;> omega) | fail)) only [go_sem, simprocAttr]; rfl⟩)
      · simp -implicitDefEqProofs (disch := (first | omega | (simp only [go_sem] <;> omega) | fail)) only [go_sem, simprocAttr, h3, h9, h10, h11, hlt', hm, memRow_eq, hk, hB, htk, htk2, wrap_i64]
        first
        | exact ⟨by omega, v.members.length - (i + 1), by omega, i + 1, rfl, by omega, rfl, hO, .inr ⟨σ1.n + 1 + 1, by rw [hs]; simp, by omega, (by first | omega | (simp -implicitDefEqProofs (disch := (first | omega | (simp only [go_sem] <;> omega) | fail)) only [go_sem, simprocAttr]; omega)), by rw [hs]; simp -implicitDefEqProofs (disch := (first | omega | (simp only [go_sem] <;> omega) | fail)) only [go_sem, simprocAttr]⟩⟩
        | exact ⟨by omega, by omega, v.members.length - (i + 1), by omega, i + 1, rfl, by omega, rfl, hO, .inr ⟨σ1.n + 1 + 1 + 1 + 1, by rw [hs]; simp, by omega, (by first | omega | (simp -implicitDefEqProofs (disch := (first | omega | (simp only [go_sem] <;> omega) | fail)) only [go_sem, simprocAttr]; omega)), by rw [hs]; simp -implicitDefEqProofs (disch := (first | omega | (simp only [go_sem] <;> omega) | fail)) only [go_sem, simprocAttr, List.append_assoc, List.singleton_append]⟩⟩
    · skip
      rw [memCols_3 hk] at hs
      rw [hkm] at hk
      rcases hcase with ⟨h3, hnil⟩ | ⟨k, h3, hk0, hkn, hB⟩
      · rw [hnil] at hs
        simp -implicitDefEqProofs (disch := (first | omega | (simp only [go_sem] <;> omega) | fail)) only [go_sem, simprocAttr, h3, h9, h10, h11, hlt', hm, memRow_eq, hk, wrap_i64, appB_colf]
        first
        | (refine ⟨v.members.length - (i + 1), by omega, i + 1, rfl, by omega, rfl, by simp -implicitDefEqProofs (disch := (first | omega | (simp only [go_sem] <;> omega) | fail)) only [go_sem, simprocAttr, hO], .inr ?_⟩
           rw [hs]
           exact ⟨_, rfl, by omega, (by first | omega | (simp -implicitDefEqProofs (disch := (first | omega | (simp only [go_sem] <;> omega) | fail)) only [go_sem, simprocAttr]; omega)), by simp -implicitDefEqProofs (disch := (first | omega | (simp only [go_sem] <;> omega) | fail)) only [go_sem, simprocAttr]; rfl⟩)
        | (refine ⟨by omega, v.members.length - (i + 1), by omega, i + 1, rfl, by omega, rfl, by simp -implicitDefEqProofs (disch := (first | omega | (simp only [go_sem] <;> omega) | fail)) only [go_sem, simprocAttr, hO], .inr ?_⟩
           rw [hs]
           exact ⟨_, rfl, by omega, (by first | omega | (simp -implicitDefEqProofs (disch := (first | omega | (simp only [go_sem] <;> omega) | fail)) only [go_sem, simprocAttr]; omega)), by simp -implicitDefEqProofs (disch := (first | omega | (simp only [go_sem] <;> omega) | fail)) only [go_sem, simprocAttr]; rfl⟩)
      · simp -implicitDefEqProofs (disch := (first | omega | (simp only [go_sem] <;> omega) | fail)) only [go_sem, simprocAttr, h3, h9, h10, h11, hlt', hm, memRow_eq, hk, hB, htk, htk2, wrap_i64]
        first
        | exact ⟨by omega, v.members.length - (i + 1), by omega, i + 1, rfl, by omega, rfl, hO, .inr ⟨σ1.n + 1 + 1, by rw [hs]; simp, by omega, (by first | omega | (simp -implicitDefEqProofs (disch := (first | omega | (simp only [go_sem] <;> omega) | fail)) only [go_sem, simprocAttr]; omega)), by rw [hs]; simp -implicitDefEqProofs (disch := (first | omega | (simp only [go_sem] <;> omega) | fail)) only [go_sem, simprocAttr]⟩⟩
        | exact ⟨by omega, by omega, v.members.length - (i + 1), by omega, i + 1, rfl, by omega, rfl, hO, .inr ⟨σ1.n + 1 + 1 + 1 + 1, by rw [hs]; simp, by omega, (by first | omega | (simp -implicitDefEqProofs (disch := (first | omega | (simp only [go_sem] <;> omega) | fail)) only [go_sem, simprocAttr]; omega)), by rw [hs]; simp -implicitDefEqProofs (disch := (first | omega | (simp only [go_sem] <;> omega) | fail)) only [go_sem, simprocAttr, List.append_assoc, List.singleton_append]⟩⟩
  · have hlt' : ¬ (i : Int) < v.members.length := by omega
    have hie : i = v.members.length := by omega
    subst hie
    rcases hcase with ⟨h3, hnil⟩ | ⟨k, h3, hk, hkn, hB⟩
    · have hz : colsAll v = [] := hnil
      rw [hz] at h
      simp -implicitDefEqProofs (disch := (first | omega | (simp only [go_sem] <;> omega) | fail)) only [go_sem, simprocAttr, h3, h9, h10, h11, hlt', hO]
      exact h
    · simp -implicitDefEqProofs (disch := (first | omega | (simp only [go_sem] <;> omega) | fail)) only [go_sem, simprocAttr, h3, h9, h10, h11, hlt', hB, hO, htk]
      exact h

def whoTo (v : SV) (i : Nat) : List Int := (colsTo v i).map fun c => (c.1 : Int)
def sgnTo (v : SV) (i : Nat) : List Int := (colsTo v i).map fun c => c.2

set_option maxRecDepth 100000 in
set_option maxHeartbeats 1000000 in
theorem scolumns_ok (v : SV) (F : SFacts v) (e : Env) (σ : St) (K : KT) (h : K (.tup [ints (whoTo v v.members.length), ints (sgnTo v v.members.length)]) e σ) : ACall Tryz.prog 77 [structV v] e σ K := by
  unfold structV
  have hnm := F.nm
  refine ACall.pureW Tryz.func77 rfl Tryz.ntmps77 Tryz.results77 rfl rfl rfl ?_
  simp -implicitDefEqProofs (disch := (first | omega | (simp only [go_sem] <;> omega) | fail)) only [go_sem, simprocAttr]
  refine Sat.loopW (fun (t : Nat) e' σ' => ∃ i k j, t = v.members.length - i ∧ i ≤ v.members.length ∧ e' 4 = .os k 0 (whoTo v i).length ∧ e' 5 = .os j 0 (sgnTo v i).length ∧ e' 11 = sl memRow v.members ∧ e' 12 = .lit (.int .i64 v.members.length) ∧ e' 13 = .lit (.int .i64 (i : Nat)) ∧ Old σ σ' ∧
    σ.n ≤ k ∧ k < σ'.n ∧ σ.n ≤ j ∧ j < σ'.n ∧ k ≠ j ∧ σ'.h k = bl intRow 1 (whoTo v i) ∧ σ'.h j = bl intRow 1 (sgnTo v i)) (fun t => t) v.members.length rfl ?_ ?_
  · simp -implicitDefEqProofs (disch := (first | omega | (simp only [go_sem] <;> omega) | fail)) only [go_sem, simprocAttr]
    exact ⟨0, σ.n + 1, σ.n + 1 + 1, by omega, by omega, rfl, rfl, rfl, by omega, by omega, by omega, by omega, by omega, by simp -implicitDefEqProofs (disch := (first | omega | (simp only [go_sem] <;> omega) | fail)) only [go_sem, simprocAttr]; rfl, by simp -implicitDefEqProofs (disch := (first | omega | (simp only [go_sem] <;> omega) | fail)) only [go_sem, simprocAttr]; rfl⟩
  rintro t e1 σ1 ⟨i, k, j, rfl, hi, h4, h5, h11, h12, h13, hO, hk, hkn, hj, hjn, hkj, hB, hD⟩
  have hOn := hO.1
  have hcb := cN_bound v i
  unfold cN at hcb
  have hwl : (whoTo v i).length = (colsTo v i).length := by simp [whoTo]
  have hsl : (sgnTo v i).length = (colsTo v i).length := by simp [sgnTo]
  have htk : (whoTo v i).take (whoTo v i).length = whoTo v i := List.take_of_length_le (Nat.le_refl _)
  have htj : (sgnTo v i).take (sgnTo v i).length = sgnTo v i := List.take_of_length_le (Nat.le_refl _)
  have hkj' : ¬ k = j := hkj
  have hjk' : ¬ j = k := fun h => hkj h.symm
  by_cases hlt : i < v.members.length
  · have hlt' : (i : Int) < v.members.length := by omega
    obtain ⟨m, hm⟩ : ∃ m, v.members.getD i default = m := ⟨_, rfl⟩
    have hkm : kindOf v i = m.kind := by unfold kindOf; rw [hm]
    have hs : colsTo v (i + 1) = colsTo v i ++ memCols v i := rfl
    have hws : whoTo v (i + 1) = whoTo v i ++ (memCols v i).map fun c => (c.1 : Int) := by unfold whoTo; rw [hs, List.map_append]
    have hss : sgnTo v (i + 1) = sgnTo v i ++ (memCols v i).map fun c => c.2 := by unfold sgnTo; rw [hs, List.map_append]
    have htk2 : (whoTo v i ++ [(i : Int)]).take ((whoTo v i).length + 1) = whoTo v i ++ [(i : Int)] := List.take_of_length_le (by simp)
    have htj2 : (sgnTo v i ++ [(1 : Int)]).take ((sgnTo v i).length + 1) = sgnTo v i ++ [(1 : Int)] := List.take_of_length_le (by simp)
    rcases kind_cases F hlt with hk0 | hk0 | hk0
    · skip
      rw [memCols_1 hk0] at hws hss
      rw [hkm] at hk0
      simp -implicitDefEqProofs (disch := (first | omega | (simp only [go_sem] <;> omega) | fail)) only [go_sem, simprocAttr, h4, h5, h11, h12, h13, hlt', hm, memRow_eq, hk0, hB, hD, htk, htj, htk2, htj2, wrap_i64]
      exact ⟨by omega, by omega, v.members.length - (i + 1), by omega, i + 1, σ1.n + 1 + 1, σ1.n + 1 + 1 + 1 + 1, rfl, by omega, by rw [hws]; simp, by rw [hss]; simp, rfl, hO, by omega, (by first | omega | (simp -implicitDefEqProofs (disch := (first | omega | (simp only [go_sem] <;> omega) | fail)) only [go_sem, simprocAttr]; omega)), by omega, (by first | omega | (simp -implicitDefEqProofs (disch := (first | omega | (simp only [go_sem] <;> omega) | fail)) only [go_sem, simprocAttr]; omega)), by omega, by rw [hws]; simp -implicitDefEqProofs (disch := (first | omega | (simp only [go_sem] <;> omega) | fail)) only [go_sem, simprocAttr, List.map_cons, List.map_nil], by rw [hss]; simp -implicitDefEqProofs (disch := (first | omega | (simp only [go_sem] <;> omega) | fail)) only [go_sem, simprocAttr, List.map_cons, List.map_nil]⟩
    · skip
      rw [memCols_2 hk0] at hws hss
      rw [hkm] at hk0
      simp -implicitDefEqProofs (disch := (first | omega | (simp only [go_sem] <;> omega) | fail)) only [go_sem, simprocAttr, h4, h5, h11, h12, h13, hlt', hm, memRow_eq, hk0, hB, hD, htk, htj, htk2, htj2, wrap_i64]
      exact ⟨by omega, by omega, v.members.length - (i + 1), by omega, i + 1, σ1.n + 1 + 1, σ1.n + 1 + 1 + 1 + 1, rfl, by omega, by rw [hws]; simp, by rw [hss]; simp, rfl, hO, by omega, (by first | omega | (simp -implicitDefEqProofs (disch := (first | omega | (simp only [go_sem] <;> omega) | fail)) only [go_sem, simprocAttr]; omega)), by omega, (by first | omega | (simp -implicitDefEqProofs (disch := (first | omega | (simp only [go_sem] <;> omega) | fail)) only [go_sem, simprocAttr]; omega)), by omega, by rw [hws]; simp -implicitDefEqProofs (disch := (first | omega | (simp only [go_sem] <;> omega) | fail)) only [go_sem, simprocAttr, List.map_cons, List.map_nil], by rw [hss]; simp -implicitDefEqProofs (disch := (first | omega | (simp only [go_sem] <;> omega) | fail)) only [go_sem, simprocAttr, List.map_cons, List.map_nil]⟩
    · skip
      rw [memCols_3 hk0] at hws hss
      rw [hkm] at hk0
      simp -implicitDefEqProofs (disch := (first | omega | (simp only [go_sem] <;> omega) | fail)) only [go_sem, simprocAttr, h4, h5, h11, h12, h13, hlt', hm, memRow_eq, hk0, hB, hD, htk, htj, htk2, htj2, wrap_i64]
      exact ⟨by omega, by omega, by omega, by omega, v.members.length - (i + 1), by omega, i + 1, σ1.n + 1 + 1 + 1 + 1 + 1 + 1, σ1.n + 1 + 1 + 1 + 1 + 1 + 1 + 1 + 1, rfl, by omega, by rw [hws]; simp, by rw [hss]; simp, rfl, hO, by omega, (by first | omega | (simp -implicitDefEqProofs (disch := (first | omega | (simp only [go_sem] <;> omega) | fail)) only [go_sem, simprocAttr]; omega)), by omega, (by first | omega | (simp -implicitDefEqProofs (disch := (first | omega | (simp only [go_sem] <;> omega) | fail)) only [go_sem, simprocAttr]; omega)), by omega, by rw [hws]; simp -implicitDefEqProofs (disch := (first | omega | (simp only [go_sem] <;> omega) | fail)) only [go_sem, simprocAttr, List.map_cons, List.map_nil, List.append_assoc, List.singleton_append], by rw [hss]; simp -implicitDefEqProofs (disch := (first | omega | (simp only [go_sem] <;> omega) | fail)) only [go_sem, simprocAttr, List.map_cons, List.map_nil, List.append_assoc, List.singleton_append]⟩
  · have hlt' : ¬ (i : Int) < v.members.length := by omega
    have hie : i = v.members.length := by omega
    subst hie
    simp -implicitDefEqProofs (disch := (first | omega | (simp only [go_sem] <;> omega) | fail)) only [go_sem, simprocAttr, h4, h5, h11, h12, h13, hlt', hB, hD, hO, htk, htj]
    exact h

theorem outF_ok {v : SV} (X : Nat → Fr) (hX : ∀ i, (X i).ok) (c k : Nat) : (outF v X c k).ok := by
  unfold outF
  split
  · trivial
  split
  · exact hX _
  split
  · exact negF_ok (hX _)
  split
  · exact hX _
  · exact subF_ok (hX _) (hX _)

set_option maxRecDepth 100000 in
set_option maxHeartbeats 1000000 in
theorem from_ok (v : SV) (F : SFacts v) (x : List Fr) (hx : ∀ y ∈ x, y.ok) (hxs : ∀ y ∈ x, y.isSome = true) (hxl : x.length = cN v v.members.length) (k0 : Nat) (e : Env) (σ : St) (hk0 : k0 < σ.n) (hB0 : σ.h k0 = .deep 2 (structRows v)) (K : KT)
    (h : K (sl frRow ((List.range v.members.length).map (outF v (fun i => x.getD i default) (cN v v.members.length)))) e σ) : ACall Tryz.prog 84 [.ptr k0 0 0, sl frRow x] e σ K := by
  have hB00 := hB0
  unfold structRows at hB0
  have hnm := F.nm
  have hX : ∀ i, (x.getD i default).ok := fun i => by
    by_cases hi : i < x.length
    · rw [getD_elem x i hi]; exact hx _ (List.getElem_mem hi)
    · simp only [List.getD, List.getElem?_eq_none (Nat.le_of_not_lt hi)]; trivial
  generalize hXd : (fun i => x.getD i default) = X at *
  have hXi : ∀ i, x.getD i default = X i := fun i => by rw [← hXd]
  have hXo : ∀ i, (X i).ok := fun i => by rw [← hXi]; exact hX i
  have hXs : ∀ i, i < cN v v.members.length → (X i).isSome = true := fun i hi => by
    rw [← hXi, getD_elem x i (by omega)]; exact hxs _ (List.getElem_mem _)
  refine ACall.pureW Tryz.func84 rfl Tryz.ntmps84 Tryz.results84 rfl rfl rfl ?_
  simp -implicitDefEqProofs (disch := (first | omega | (simp only [go_sem] <;> omega) | fail)) only [go_sem, simprocAttr, hB0]
  refine callF.plain ?_
  refine ACall.eq_args (l' := [.ptr k0 0 0]) (by simp -implicitDefEqProofs (disch := (first | omega | (simp only [go_sem] <;> omega) | fail)) only [go_sem, simprocAttr]) ?_
  refine columns_ok v F k0 _ _ (by first | omega | (simp -implicitDefEqProofs (disch := (first | omega | (simp only [go_sem] <;> omega) | fail)) only [go_sem, simprocAttr]; omega)) (by simp -implicitDefEqProofs (disch := (first | omega | (simp only [go_sem] <;> omega) | fail)) only [go_sem, simprocAttr, hB00]) _ ?_
  have hcl : (colsAll v).length = cN v v.members.length := rfl
  have hcb := cN_bound v v.members.length
  simp -implicitDefEqProofs (disch := (first | omega | (simp only [go_sem] <;> omega) | fail)) only [go_sem, simprocAttr]
  refine Sat.loopW (fun (t : Nat) e' σ' => ∃ c kk L, t = cN v v.members.length - c ∧ c ≤ cN v v.members.length ∧ e' 1 = sl frRow x ∧ e' 5 = .os kk 0 v.members.length ∧ e' 16 = sl colRow (colsAll v) ∧ e' 17 = .lit (.int .i64 (cN v v.members.length : Nat)) ∧ e' 18 = .lit (.int .i64 (c : Nat)) ∧ Old σ σ' ∧ σ.n ≤ kk ∧ kk < σ'.n ∧ σ'.h kk = bl frRow 1 L ∧ L.length = v.members.length ∧ (∀ j, j < v.members.length → L.getD j default = outF v X c j)) (fun t => t) (cN v v.members.length) rfl ?_ ?_
  · simp -implicitDefEqProofs (disch := (first | omega | (simp only [go_sem] <;> omega) | fail)) only [go_sem, simprocAttr, hcl]
    refine ⟨0, σ.n, List.replicate v.members.length none, by omega, by omega, rfl, rfl, by omega, by omega, by simp -implicitDefEqProofs (disch := (first | omega | (simp only [go_sem] <;> omega) | fail)) only [go_sem, simprocAttr], by simp, fun j hj => ?_⟩
    unfold outF
    rw [if_pos (by omega)]
    simp [List.getD, hj]
  rintro t e1 σ1 ⟨c, kk, L, rfl, hc, h1, h5, h16, h17, h18, hO, hk, hkn, hB, hL, hA⟩
  have hOn := hO.1
  by_cases hlt : c < cN v v.members.length
  · have hlt' : (c : Int) < (cN v v.members.length : Nat) := by omega
    have hlx : (c : Int) < x.length := by omega
    obtain ⟨k, hkl, hk1, hk2, hk3⟩ := col_at F _ c (Nat.le_refl _) hlt
    have hcol : (colsAll v).getD c default = (k, if kindOf v k = 2 then -1 else if c = cN v k then 1 else -1) := by
      unfold colsAll; rw [List.getD, hk3]; rfl
    have hkl' : (k : Int) < v.members.length := by omega
    have hother := fun j (hj : j < v.members.length) (hne : j ≠ k) => outF_other F X hkl hj hk1 hk2 hne
    have hfin : ∀ y, outF v X (c + 1) k = y → ∀ j, j < v.members.length → (L.set k y).getD j default = outF v X (c + 1) j := fun y hy j hj => by
      by_cases hjk : j = k
      · subst hjk
        rw [List.getD, List.getElem?_set_self (by omega), hy]; rfl
      · rw [List.getD, List.getElem?_set_ne (by omega), hother j hj hjk, ← hA j hj]; rfl
    have hLk := hA k hkl
    have hxc := hXi c
    have hxo := hXo c
    have hxs' := hXs c hlt
    obtain ⟨y, hy⟩ : ∃ y, X c = y := ⟨_, rfl⟩
    rw [hy] at hxc hxo hxs'
    rcases outF_here F X hkl hk1 hk2 with ⟨hv1, hv2, hv3, hv4⟩ | ⟨hv1, hv2, hv3, hv4⟩ | ⟨hv1, hv2, hv3, hv4⟩ | ⟨hv1, hv2, hv3, hv4⟩
    · rw [if_neg (by omega), if_pos hv2] at hcol
      rw [hv3] at hLk
      rw [hy] at hv4
      have hfn : frRow (L.getD k default) = [.lit (.pointer none)] := by rw [hLk]; rfl
      simp -implicitDefEqProofs (disch := (first | omega | (simp only [go_sem] <;> omega) | fail)) only [go_sem, simprocAttr, h1, h5, h16, h17, h18, hcl, hlt', hlx, hcol, colRow_eq, hxc, hkl', hB, hfn, frRow_eq, wrap_i64]
      exact ⟨cN v v.members.length - (c + 1), by omega, c + 1, kk, L.set k (y), rfl, by omega, rfl, rfl, hO, hk, (by first | omega | (simp -implicitDefEqProofs (disch := (first | omega | (simp only [go_sem] <;> omega) | fail)) only [go_sem, simprocAttr]; omega)), by simp -implicitDefEqProofs (disch := (first | omega | (simp only [go_sem] <;> omega) | fail)) only [go_sem, simprocAttr], by simpa using hL, hfin _ hv4⟩
    · rw [if_pos hv1] at hcol
      rw [hv3] at hLk
      rw [hy] at hv4
      have hfn : frRow (L.getD k default) = [.lit (.pointer none)] := by rw [hLk]; rfl
      simp -implicitDefEqProofs (disch := (first | omega | (simp only [go_sem] <;> omega) | fail)) only [go_sem, simprocAttr, h1, h5, h16, h17, h18, hcl, hlt', hlx, hcol, colRow_eq, hxc, hkl', hB, hfn, frRow_eq, wrap_i64]
      refine callF.plain (ACall.eq_args (l' := [frA y]) (by simp -implicitDefEqProofs (disch := (first | omega | (simp only [go_sem] <;> omega) | fail)) only [go_sem, simprocAttr]) (neg_ok y _ _ _ ?_))
      simp -implicitDefEqProofs (disch := (first | omega | (simp only [go_sem] <;> omega) | fail)) only [go_sem, simprocAttr, h1, h5, h16, h17, h18, hcl, hlt', hlx, hcol, colRow_eq, hxc, hkl', hB, hfn, frRow_eq, wrap_i64]
      exact ⟨cN v v.members.length - (c + 1), by omega, c + 1, kk, L.set k (negF y), rfl, by omega, rfl, rfl, hO, hk, (by first | omega | (simp -implicitDefEqProofs (disch := (first | omega | (simp only [go_sem] <;> omega) | fail)) only [go_sem, simprocAttr]; omega)), by simp -implicitDefEqProofs (disch := (first | omega | (simp only [go_sem] <;> omega) | fail)) only [go_sem, simprocAttr], by simpa using hL, hfin _ hv4⟩
    · rw [if_neg (by omega), if_pos hv2] at hcol
      rw [hv3] at hLk
      rw [hy] at hv4
      have hfn : frRow (L.getD k default) = [.lit (.pointer none)] := by rw [hLk]; rfl
      simp -implicitDefEqProofs (disch := (first | omega | (simp only [go_sem] <;> omega) | fail)) only [go_sem, simprocAttr, h1, h5, h16, h17, h18, hcl, hlt', hlx, hcol, colRow_eq, hxc, hkl', hB, hfn, frRow_eq, wrap_i64]
      exact ⟨cN v v.members.length - (c + 1), by omega, c + 1, kk, L.set k (y), rfl, by omega, rfl, rfl, hO, hk, (by first | omega | (simp -implicitDefEqProofs (disch := (first | omega | (simp only [go_sem] <;> omega) | fail)) only [go_sem, simprocAttr]; omega)), by simp -implicitDefEqProofs (disch := (first | omega | (simp only [go_sem] <;> omega) | fail)) only [go_sem, simprocAttr], by simpa using hL, hfin _ hv4⟩
    · rw [if_neg (by omega), if_neg (by omega)] at hcol
      rw [hv3] at hLk
      rw [hy] at hv4
      have hws := hXs (cN v k) (by omega)
      have hwo := hXo (cN v k)
      obtain ⟨w, hw⟩ : ∃ w, X (cN v k) = w := ⟨_, rfl⟩
      rw [hw] at hLk hv4 hws hwo
      match w, hws with
      | some (n, d), _ =>
        have hfn : frRow (L.getD k default) = [ratP n d] := by rw [hLk]; rfl
        have hfa : ratP n d = frA (some (n, d)) := rfl
        unfold ratP at hfn
        simp -implicitDefEqProofs (disch := (first | omega | (simp only [go_sem] <;> omega) | fail)) only [go_sem, simprocAttr, h1, h5, h16, h17, h18, hcl, hlt', hlx, hcol, colRow_eq, hxc, hkl', hB, hfn, frRow_eq, wrap_i64]
        refine callF.plain (ACall.eq_args (l' := [frA y]) (by simp -implicitDefEqProofs (disch := (first | omega | (simp only [go_sem] <;> omega) | fail)) only [go_sem, simprocAttr]) (neg_ok y _ _ _ ?_))
        simp -implicitDefEqProofs (disch := (first | omega | (simp only [go_sem] <;> omega) | fail)) only [go_sem, simprocAttr, h1, h5, h16, h17, h18, hcl, hlt', hlx, hcol, colRow_eq, hxc, hkl', hB, hfn, frRow_eq, wrap_i64]
        refine Sat.drawn0 [11] mixed (by kernel_rfl) ?_
        simp -implicitDefEqProofs (disch := (first | omega | (simp only [go_sem] <;> omega) | fail)) only [go_sem, simprocAttr, h1, h5, h16, h17, h18, hcl, hlt', hlx, hcol, colRow_eq, hxc, hkl', hB, hfn, frRow_eq, wrap_i64]
        refine exQ.intro (add_ok (some (n, d)) (negF y) hwo (negF_ok hxo) _ _ _ ⟨rfl, rfl⟩) ?_
        rw [← subF_eq]
        simp -implicitDefEqProofs (disch := (first | omega | (simp only [go_sem] <;> omega) | fail)) only [go_sem, simprocAttr, h1, h5, h16, h17, h18, hB, wrap_i64]
        exact ⟨cN v v.members.length - (c + 1), by omega, c + 1, kk, L.set k (subF (some (n, d)) y), rfl, by omega, rfl, rfl, hO, hk, (by first | omega | (simp -implicitDefEqProofs (disch := (first | omega | (simp only [go_sem] <;> omega) | fail)) only [go_sem, simprocAttr]; omega)), by simp -implicitDefEqProofs (disch := (first | omega | (simp only [go_sem] <;> omega) | fail)) only [go_sem, simprocAttr], by simpa using hL, hfin _ hv4⟩
  · have hlt' : ¬ (c : Int) < (cN v v.members.length : Nat) := by omega
    have hie : c = cN v v.members.length := by omega
    subst hie
    have hLL : L = (List.range v.members.length).map (outF v X (cN v v.members.length)) := by
      apply List.ext_getElem (by simpa using hL)
      intro j h1 h2
      have := hA j (by omega)
      rw [getD_elem L j h1] at this
      rw [this]; simp
    have htk : L.take v.members.length = L := List.take_of_length_le (by omega)
    rw [← hLL] at h
    simp -implicitDefEqProofs (disch := (first | omega | (simp only [go_sem] <;> omega) | fail)) only [go_sem, simprocAttr, h1, h5, h16, h17, h18, hlt', hB, hO, htk]
    exact h

def outsF (v : SV) (q : List RV) : List Fr := (List.range v.members.length).map (outF v (frsOf q) (cN v v.members.length))
def densFromO (v : SV) (q : List RV) : Option (List RV) :=
  if structOkB v = true ∧ q.length = cN v v.members.length ∧ (q.all fun r => r.fr.isSome) = true ∧ (outsF v q).all Option.isSome = true then some ((outsF v q).map Fr.rv) else none
theorem outsF_ok (v : SV) (q : List RV) : ∀ x ∈ outsF v q, x.ok := by
  intro x hx
  obtain ⟨k, _, rfl⟩ := List.mem_map.1 hx
  exact outF_ok _ (fun i => fr_ok _) _ _
theorem densFromO_small (v : SV) (hv : v.members.length ≤ 2000000) (q : List RV) : smallB (resQ (densFromO v q)) := by
  unfold densFromO
  split
  · refine ⟨by simpa [resQ, outsF] using hv, fun x hx => ?_⟩
    obtain ⟨y, hy, rfl⟩ := List.mem_map.1 (show x ∈ (outsF v q).map Fr.rv from hx)
    exact ratRow_pre (outsF_ok v q y hy)
  · exact ⟨by simp [resQ], by simp [resQ]⟩

set_option maxRecDepth 100000 in
set_option maxHeartbeats 1000000 in
theorem densFrom_own (v : SV) (q : List RV) (hs : ∀ j ∈ v.joints, j.name.size ≤ 1000000000) (hq : q.length ≤ 2000000) (e : Env) (σ : St) (K : KT)
    (h0 : ∀ σ' x, Old σ σ' → GB σ' σ.n σ'.n (densFromO v q) x → K (.tup [x, .lit (.bool (densFromO v q).isSome)]) e σ') :
    ACall Tryz.prog 30 [structV v, sl ratRow q] e σ K := by
  have h : ∀ l', densFromO v q = some l' → ∀ σ' k T, Old σ σ' → T.map QT.r = l' → QB σ' σ.n σ'.n k T → K (.tup [.os k 0 l'.length, .lit (.bool true)]) e σ' := fun l' hl σ' k T h1 h2 h3 => by
    rw [hl] at h0
    exact h0 σ' _ h1 ⟨k, T, rfl, h2, h3⟩
  have h' : densFromO v q = none → ∀ σ', Old σ σ' → K (.tup [.lit (.slice none 0 0), .lit (.bool false)]) e σ' := fun hn σ' h1 => by
    rw [hn] at h0
    exact h0 σ' _ h1 rfl
  clear h0
  unfold structV
  unfold densFromO at h h'
  refine ACall.bareW Tryz.func30 rfl Tryz.ntmps30 Tryz.results30 rfl rfl rfl ?_
  simp -implicitDefEqProofs (disch := (first | omega | (simp only [go_sem] <;> omega) | fail)) only [go_sem, simprocAttr]
  refine callF.plain (structOk_ok v hs _ _ _ ?_)
  cases ho : structOkB v with
  | false =>
    have h' := h' (if_neg (by rw [ho]; simp))
    simp -implicitDefEqProofs (disch := (first | omega | (simp only [go_sem] <;> omega) | fail)) only [go_sem, simprocAttr]
    exact h' _ (by simp -implicitDefEqProofs (disch := (first | omega | (simp only [go_sem] <;> omega) | fail)) only [go_sem, simprocAttr])
  | true =>
    have F := sfacts ho
    have hnm := F.nm
    have hcb := cN_bound v v.members.length
    have hcl : (colsAll v).length = cN v v.members.length := rfl
    simp -implicitDefEqProofs (disch := (first | omega | (simp only [go_sem] <;> omega) | fail)) only [go_sem, simprocAttr]
    refine callF.plain ?_
    refine ACall.eq_args (l' := [.ptr σ.n 0 0]) (by simp -implicitDefEqProofs (disch := (first | omega | (simp only [go_sem] <;> omega) | fail)) only [go_sem, simprocAttr]) ?_
    refine columns_ok v F σ.n _ _ (by first | omega | (simp -implicitDefEqProofs (disch := (first | omega | (simp only [go_sem] <;> omega) | fail)) only [go_sem, simprocAttr]; omega)) (by simp -implicitDefEqProofs (disch := (first | omega | (simp only [go_sem] <;> omega) | fail)) only [go_sem, simprocAttr]; rfl) _ ?_
    simp -implicitDefEqProofs (disch := (first | omega | (simp only [go_sem] <;> omega) | fail)) only [go_sem, simprocAttr, hcl]
    refine callF.plain (loadsOf_ok q (cN v v.members.length) hq _ _ _ ?_)
    by_cases hc : q.length = cN v v.members.length ∧ (q.all fun r => r.fr.isSome) = true
    · rw [if_pos hc]
      simp -implicitDefEqProofs (disch := (first | omega | (simp only [go_sem] <;> omega) | fail)) only [go_sem, simprocAttr]
      refine callF.plain ?_
      refine ACall.eq_args (l' := [.ptr σ.n 0 0, sl frRow (q.map RV.fr)]) (by simp -implicitDefEqProofs (disch := (first | omega | (simp only [go_sem] <;> omega) | fail)) only [go_sem, simprocAttr]) ?_
      have hall := List.all_eq_true.1 hc.2
      refine from_ok v F (q.map RV.fr) (fun y hy => by obtain ⟨r, _, rfl⟩ := List.mem_map.1 hy; exact fr_ok r) (fun y hy => by obtain ⟨r, hr, rfl⟩ := List.mem_map.1 hy; exact hall r hr) (by simpa using hc.1) σ.n _ _ (by first | omega | (simp -implicitDefEqProofs (disch := (first | omega | (simp only [go_sem] <;> omega) | fail)) only [go_sem, simprocAttr]; omega)) (by simp -implicitDefEqProofs (disch := (first | omega | (simp only [go_sem] <;> omega) | fail)) only [go_sem, simprocAttr]; rfl) _ ?_
      have hfe := frsOf_eq q
      rw [hfe]
      have houts : (List.range v.members.length).map (outF v (frsOf q) (cN v v.members.length)) = outsF v q := rfl
      rw [houts]
      simp -implicitDefEqProofs (disch := (first | omega | (simp only [go_sem] <;> omega) | fail)) only [go_sem, simprocAttr]
      refine callF.plain (stores_own (outsF v q) (outsF_ok v q) (by simp [outsF]; omega) _ _ _ (fun hall2 σ1 k T hO hT hQ => ?_) (fun hall2 σ1 hO => ?_))
      · have h := h _ (if_pos ⟨ho, hc.1, hc.2, hall2⟩)
        rw [List.length_map] at h
        simp -implicitDefEqProofs (disch := (first | omega | (simp only [go_sem] <;> omega) | fail)) only [go_sem, simprocAttr]
        exact h σ1 k T (Old.trans (by simp -implicitDefEqProofs (disch := (first | omega | (simp only [go_sem] <;> omega) | fail)) only [go_sem, simprocAttr]) hO) hT (hQ.low (by first | omega | (simp -implicitDefEqProofs (disch := (first | omega | (simp only [go_sem] <;> omega) | fail)) only [go_sem, simprocAttr]; omega)))
      · have h' := h' (if_neg (fun hh => by rw [hall2] at hh; exact absurd hh.2.2.2 (by simp)))
        simp -implicitDefEqProofs (disch := (first | omega | (simp only [go_sem] <;> omega) | fail)) only [go_sem, simprocAttr]
        exact h' σ1 (Old.trans (by simp -implicitDefEqProofs (disch := (first | omega | (simp only [go_sem] <;> omega) | fail)) only [go_sem, simprocAttr]) hO)
    · have h' := h' (if_neg (fun hh => hc ⟨hh.2.1, hh.2.2.1⟩))
      rw [if_neg hc]
      simp -implicitDefEqProofs (disch := (first | omega | (simp only [go_sem] <;> omega) | fail)) only [go_sem, simprocAttr]
      exact h' _ (by simp -implicitDefEqProofs (disch := (first | omega | (simp only [go_sem] <;> omega) | fail)) only [go_sem, simprocAttr])

@[go_sem] theorem appB_rat (e : Env) (σ : St) (K : KT) (id len : Nat) (l : List RV) (b : Bool) (m d : List Int) (ne : Prop) (j : TI) (h : len ≤ l.length) : appB (bl ratRow 3 l) id len [[.lit (.bool b), sl intRow m, sl intRow d]] ne j e σ K = (3 = j.cells ∧ ne ∧ K (.os σ.n 0 (len + 1)) e ((σ.put id .dead).new (bl ratRow 3 (l.take len ++ [⟨b, m, d⟩])))) :=
  appB_row e σ K ratRow 3 id len l ⟨b, m, d⟩ _ rfl ne j h
@[go_sem] theorem storeB_ratF (e : Env) (σ : St) (K : KT) (i : TI) (l : List RV) (id r : Nat) (b : Bool) (m d : List Int) (h : r < l.length) :
    storeB i (some [.lit (.bool b), sl intRow m, sl intRow d]) (bl ratRow 3 l) id r 0 e σ K = (3 = i.cells ∧ K .any e (σ.put id (bl ratRow 3 (l.set r ⟨b, m, d⟩)))) :=
  storeB_row e σ K ratRow 3 (fun x => rfl) (fun x a ha => by simp [ratRow] at ha; rcases ha with rfl | rfl | rfl <;> rfl) (fun x a ha => by simp [ratRow] at ha; rcases ha with rfl | rfl | rfl <;> first | exact .lit | exact .ps) i l id r ⟨b, m, d⟩ h

set_option maxRecDepth 100000 in
set_option maxHeartbeats 1000000 in
theorem szero1_ok (e : Env) (σ : St) (K : KT) (h : K (ratV (wholeF 0).rv) e σ) : ACall Tryz.prog 151 [] e σ K := by
  refine ACall.pureW Tryz.func151 rfl Tryz.ntmps151 Tryz.results151 rfl rfl rfl ?_
  simp -implicitDefEqProofs (disch := (first | omega | (simp only [go_sem] <;> omega) | fail)) only [go_sem, simprocAttr]
  refine callF.plain (swhole_ok 0 (by omega) (by omega) _ _ _ ?_)
  unfold ratV at h ⊢
  simp -implicitDefEqProofs (disch := (first | omega | (simp only [go_sem] <;> omega) | fail)) only [go_sem, simprocAttr]
  exact h

set_option maxRecDepth 100000 in
set_option maxHeartbeats 1000000 in
theorem szeros_own (n : Nat) (hn : n ≤ 2000000) (e : Env) (σ : St) (K : KT) (h : ∀ σ' k, Old σ σ' → σ.n ≤ k → k < σ'.n → σ'.h k = bl ratRow 3 (List.replicate n (wholeF 0).rv) → K (.os k 0 n) e σ') : ACall Tryz.prog 122 [.lit (.int .i64 (n : Nat))] e σ K := by
  refine ACall.bareW Tryz.func122 rfl Tryz.ntmps122 Tryz.results122 rfl rfl rfl ?_
  simp -implicitDefEqProofs (disch := (first | omega | (simp only [go_sem] <;> omega) | fail)) only [go_sem, simprocAttr]
  refine Sat.loopW (fun (t : Nat) e' σ' => ∃ i k, t = n - i ∧ i ≤ n ∧ e' 0 = .lit (.int .i64 (n : Nat)) ∧ e' 3 = .os k 0 i ∧ Old σ σ' ∧ σ.n ≤ k ∧ k < σ'.n ∧ σ'.h k = bl ratRow 3 (List.replicate i (wholeF 0).rv)) (fun t => t) n rfl ?_ ?_
  · simp -implicitDefEqProofs (disch := (first | omega | (simp only [go_sem] <;> omega) | fail)) only [go_sem, simprocAttr]
    exact ⟨0, σ.n, by omega, by omega, rfl, by omega, by omega, by simp -implicitDefEqProofs (disch := (first | omega | (simp only [go_sem] <;> omega) | fail)) only [go_sem, simprocAttr]; rfl⟩
  rintro t e1 σ1 ⟨i, k, rfl, hi, h0, h3, hO, hk, hkn, hB⟩
  have hOn := hO.1
  by_cases hlt : i < n
  · have hlt' : (i : Int) < n := by omega
    have htk : (List.replicate i (wholeF 0).rv).take i = List.replicate i (wholeF 0).rv := List.take_of_length_le (by simp)
    simp -implicitDefEqProofs (disch := (first | omega | (simp only [go_sem] <;> omega) | fail)) only [go_sem, simprocAttr, h0, h3, hlt']
    refine callF.plain (szero1_ok _ _ _ ?_)
    unfold ratV
    simp -implicitDefEqProofs (disch := (first | omega | (simp only [go_sem] <;> omega) | fail)) only [go_sem, simprocAttr, h0, h3, hB, htk]
    exact ⟨by omega, n - (i + 1), by omega, i + 1, σ1.n + 1, rfl, by omega, rfl, hO, by omega, (by first | omega | (simp -implicitDefEqProofs (disch := (first | omega | (simp only [go_sem] <;> omega) | fail)) only [go_sem, simprocAttr]; omega)), by rw [List.replicate_succ']; simp -implicitDefEqProofs (disch := (first | omega | (simp only [go_sem] <;> omega) | fail)) only [go_sem, simprocAttr]⟩
  · have hlt' : ¬ (i : Int) < n := by omega
    have hie : i = n := by omega
    subst hie
    simp -implicitDefEqProofs (disch := (first | omega | (simp only [go_sem] <;> omega) | fail)) only [go_sem, simprocAttr, h0, h3, hlt']
    exact h _ k hO hk hkn hB

set_option maxRecDepth 100000 in
set_option maxHeartbeats 1000000 in
theorem szeroV_own (n : Nat) (hn : n ≤ 24) (e : Env) (σ : St) (K : KT) (h : ∀ σ' k, Old σ σ' → σ.n ≤ k → k < σ'.n → σ'.h k = bl ratRow 3 (List.replicate n (wholeF 0).rv) → K (.os k 0 n) e σ') : ACall Tryz.prog 79 [.lit (.int .i64 (n : Nat))] e σ K := by
  refine ACall.bareW Tryz.func79 rfl Tryz.ntmps79 Tryz.results79 rfl rfl rfl ?_
  simp -implicitDefEqProofs (disch := (first | omega | (simp only [go_sem] <;> omega) | fail)) only [go_sem, simprocAttr]
  refine callF.plain (sin_ok _ _ _ _ _ _ ?_)
  have hb : (decide ((0 : Int) ≤ (n : Nat)) && decide (((n : Nat) : Int) ≤ 24)) = true := by simp; omega
  rw [hb]
  simp -implicitDefEqProofs (disch := (first | omega | (simp only [go_sem] <;> omega) | fail)) only [go_sem, simprocAttr]
  refine callF.plain (szeros_own n (by omega) _ _ _ fun σ1 k hO hk hkn hB => ?_)
  simp -implicitDefEqProofs (disch := (first | omega | (simp only [go_sem] <;> omega) | fail)) only [go_sem, simprocAttr]
  exact h σ1 k hO hk hkn hB

theorem addF_zero {x : Fr} (hx : x.ok) (hs : x.isSome = true) : addF (wholeF 0) x = x := by
  match x, hx with
  | some (n, d), hx =>
    obtain ⟨h1, h2, h3⟩ := hx
    simp only [wholeF, addF, Int.zero_mul, Int.zero_add, Nat.one_mul]
    unfold lowF
    have e1 : lowN (n * ((1 : Nat) : Int)) d = n := by
      rw [Int.natCast_one, Int.mul_one]
      unfold lowN; rw [h2, Nat.div_one]
      unfold sgn; split <;> rename_i h <;> simp at h <;> omega
    have e2 : lowD (n * ((1 : Nat) : Int)) d = d := by
      rw [Int.natCast_one, Int.mul_one]
      unfold lowD; rw [h2, Nat.div_one]
    rw [e1, e2, if_pos h3]
theorem negF_isSome {x : Fr} : (negF x).isSome = x.isSome := by
  match x with
  | none => rfl
  | some (a, b) => rfl
theorem subF_zero {x : Fr} (hx : x.ok) (hs : x.isSome = true) : subF (wholeF 0) x = negF x := by
  rw [subF_eq]; exact addF_zero (negF_ok hx) (by rw [negF_isSome]; exact hs)

def outS (v : SV) (X : Nat → Fr) (c k : Nat) : Fr := if c ≤ cN v k then wholeF 0 else outF v X c k
theorem outS_ok {v : SV} (X : Nat → Fr) (hX : ∀ i, (X i).ok) (c k : Nat) : (outS v X c k).ok := by
  unfold outS; split
  · exact wholeF0_ok
  · exact outF_ok X hX c k
theorem outS_other {v : SV} (F : SFacts v) (X : Nat → Fr) {c k j : Nat} (hk : k < v.members.length) (hj : j < v.members.length) (h1 : cN v k ≤ c) (h2 : c < cN v (k + 1)) (hne : j ≠ k) : outS v X (c + 1) j = outS v X c j := by
  unfold outS
  rw [outF_other F X hk hj h1 h2 hne]
  rcases Nat.lt_or_gt_of_ne hne with h | h
  · have h3 := cN_le v (show j + 1 ≤ k by omega)
    rw [cN_succ] at h3
    have h4 : 1 ≤ (memCols v j).length := by
      rcases kind_cases F hj with hk | hk | hk
      · rw [memCols_1 hk]; simp
      · rw [memCols_2 hk]; simp
      · rw [memCols_3 hk]; simp
    rw [if_neg (show ¬ c + 1 ≤ cN v j by omega), if_neg (show ¬ c ≤ cN v j by omega)]
  · have h3 := cN_le v (show k + 1 ≤ j by omega)
    rw [if_pos (show c + 1 ≤ cN v j by omega), if_pos (show c ≤ cN v j by omega)]
theorem outS_end {v : SV} (F : SFacts v) (X : Nat → Fr) {j : Nat} (hj : j < v.members.length) : outS v X (cN v v.members.length) j = outF v X (cN v v.members.length) j := by
  have h3 := cN_le v (show j + 1 ≤ v.members.length by omega)
  rw [cN_succ] at h3
  have h4 : 1 ≤ (memCols v j).length := by
    rcases kind_cases F hj with hk | hk | hk
    · rw [memCols_1 hk]; simp
    · rw [memCols_2 hk]; simp
    · rw [memCols_3 hk]; simp
  unfold outS
  rw [if_neg (by omega)]
theorem rv_fr_isSome {x : Fr} (hx : x.ok) : x.rv.fr.isSome = x.isSome := by
  rw [isSome_ratOf, okB_fr hx]

set_option maxRecDepth 100000 in
set_option maxHeartbeats 1000000 in
theorem sdensFrom_ok (v : SV) (q : List RV) (hs : ∀ j ∈ v.joints, j.name.size ≤ 1000000000) (hq : q.length ≤ 2000000) (hsh : ∀ r ∈ q, r.short) (e : Env) (σ : St) (K : KT) (h : K (resV (densFromO v q)) e σ) :
    ACall Tryz.prog 29 [structV v, sl ratRow q] e σ K := by
  have hno : densFromO v q = none → K (.tup [.ps [], .lit (.bool false)]) e σ := fun hn => by rw [hn] at h; exact h
  unfold structV
  unfold densFromO at h hno
  refine ACall.pureW Tryz.func29 rfl Tryz.ntmps29 Tryz.results29 rfl rfl rfl ?_
  simp -implicitDefEqProofs (disch := (first | omega | (simp only [go_sem] <;> omega) | fail)) only [go_sem, simprocAttr]
  refine callF.plain (sstructOk_ok v hs _ _ _ ?_)
  cases ho : structOkB v with
  | false =>
    have hno := hno (if_neg (by rw [ho]; simp))
    simp -implicitDefEqProofs (disch := (first | omega | (simp only [go_sem] <;> omega) | fail)) only [go_sem, simprocAttr]
    exact hno
  | true =>
    have F := sfacts ho
    have hnm := F.nm
    have hcb := cN_bound v v.members.length
    have hwl : (whoTo v v.members.length).length = cN v v.members.length := by simp [whoTo, cN]
    have hgl : (sgnTo v v.members.length).length = cN v v.members.length := by simp [sgnTo, cN]
    simp -implicitDefEqProofs (disch := (first | omega | (simp only [go_sem] <;> omega) | fail)) only [go_sem, simprocAttr]
    refine callF.plain (scolumns_ok v F _ _ _ ?_)
    by_cases hc1 : q.length = cN v v.members.length
    · have hc1' : (q.length : Int) = (cN v v.members.length : Nat) := by omega
      simp -implicitDefEqProofs (disch := (first | omega | (simp only [go_sem] <;> omega) | fail)) only [go_sem, simprocAttr, hwl, hc1']
      refine callF.plain (svalid_ok q hq hsh _ _ _ ?_)
      cases hc2 : (q.all fun r => r.fr.isSome) with
      | false =>
        have hno := hno (if_neg (fun hh => by rw [hc2] at hh; exact absurd hh.2.2.1 (by simp)))
        simp -implicitDefEqProofs (disch := (first | omega | (simp only [go_sem] <;> omega) | fail)) only [go_sem, simprocAttr]
        exact hno
      | true =>
        simp -implicitDefEqProofs (disch := (first | omega | (simp only [go_sem] <;> omega) | fail)) only [go_sem, simprocAttr]
        refine callF.plain (szeroV_own v.members.length (by omega) _ _ _ fun σ2 k2 hO2 hk2 hkn2 hB2 => ?_)
        have n2 := hO2.le (k := σ.n + 1) (by first | omega | (simp -implicitDefEqProofs (disch := (first | omega | (simp only [go_sem] <;> omega) | fail)) only [go_sem, simprocAttr]; omega))
        have o2 : Old σ σ2 := Old.trans (by simp -implicitDefEqProofs (disch := (first | omega | (simp only [go_sem] <;> omega) | fail)) only [go_sem, simprocAttr]) hO2
        have hk2' : σ.n + 1 ≤ k2 := Nat.le_trans (by first | omega | (simp -implicitDefEqProofs (disch := (first | omega | (simp only [go_sem] <;> omega) | fail)) only [go_sem, simprocAttr]; omega)) hk2
        clear hO2 hk2
        have hXo : ∀ i, (frsOf q i).ok := fun i => fr_ok _
        have hall := List.all_eq_true.1 hc2
        have hXr : ∀ c, c < cN v v.members.length → q.getD c default = (frsOf q c).rv ∧ (frsOf q c).isSome = true := fun c hc => by
          have hri : (q.getD c default).fr.isSome = true := by
            rw [getD_elem q c (by omega)]
            exact hall _ (List.getElem_mem _)
          exact ⟨rv_of_fr hri, hri⟩
        obtain ⟨X, hXd⟩ : ∃ X, frsOf q = X := ⟨_, rfl⟩
        rw [hXd] at hXo hXr
        simp -implicitDefEqProofs (disch := (first | omega | (simp only [go_sem] <;> omega) | fail)) only [go_sem, simprocAttr, hwl]
        refine Sat.loopW (fun (t : Nat) e' σ' => ∃ c kk L, t = cN v v.members.length - c ∧ c ≤ cN v v.members.length ∧ e' 1 = sl ratRow q ∧ e' 7 = ints (sgnTo v v.members.length) ∧ e' 8 = .os kk 0 v.members.length ∧ e' 33 = ints (whoTo v v.members.length) ∧ e' 34 = .lit (.int .i64 (cN v v.members.length : Nat)) ∧ e' 35 = .lit (.int .i64 (c : Nat)) ∧ Old σ σ' ∧ σ.n ≤ kk ∧ kk < σ'.n ∧ σ'.h kk = bl ratRow 3 L ∧ L.length = v.members.length ∧ (∀ j, j < v.members.length → L.getD j default = (outS v X c j).rv)) (fun t => t) (cN v v.members.length) rfl ?_ ?_
        · simp -implicitDefEqProofs (disch := (first | omega | (simp only [go_sem] <;> omega) | fail)) only [go_sem, simprocAttr, hwl]
          refine ⟨0, k2, List.replicate v.members.length (wholeF 0).rv, by omega, by omega, rfl, rfl, o2, by omega, by omega, hB2, by simp, fun j hj => ?_⟩
          unfold outS
          rw [if_pos (by omega)]
          simp [List.getD, hj]
        clear o2 n2 hkn2 hB2 hk2'
        rintro t e1 σ1 ⟨c, kk, L, rfl, hc, h1, h7, h8, h33, h34, h35, hO, hk, hkn, hB, hL, hA⟩
        have hOn := hO.1
        by_cases hlt : c < cN v v.members.length
        · have hlt' : (c : Int) < (cN v v.members.length : Nat) := by omega
          have hlx : (c : Int) < q.length := by omega
          obtain ⟨k, hkl, hk1, hk2, hk3⟩ := col_at F _ c (Nat.le_refl _) hlt
          have hwho : (whoTo v v.members.length).getD c 0 = (k : Int) := by
            unfold whoTo; rw [List.getD, List.getElem?_map, hk3]; rfl
          have hsgn : (sgnTo v v.members.length).getD c 0 = (if kindOf v k = 2 then -1 else if c = cN v k then 1 else -1) := by
            unfold sgnTo; rw [List.getD, List.getElem?_map, hk3]; rfl
          have hkl' : (k : Int) < v.members.length := by omega
          have hother := fun j (hj : j < v.members.length) (hne : j ≠ k) => outS_other F X hkl hj hk1 hk2 hne
          have hfin : ∀ y : Fr, outS v X (c + 1) k = y → ∀ j, j < v.members.length → (L.set k y.rv).getD j default = (outS v X (c + 1) j).rv := fun y hy j hj => by
            by_cases hjk : j = k
            · subst hjk
              rw [List.getD, List.getElem?_set_self (by omega), hy]; rfl
            · rw [List.getD, List.getElem?_set_ne (by omega), hother j hj hjk, ← hA j hj]; rfl
          have hLk := hA k hkl
          obtain ⟨hxc, hxs⟩ := hXr c hlt
          have hxo := hXo c
          have hout1 : outS v X (c + 1) k = outF v X (c + 1) k := by unfold outS; rw [if_neg (by omega)]
          obtain ⟨y, hy⟩ : ∃ y, X c = y := ⟨_, rfl⟩
          rw [hy] at hxc hxo hxs
          rcases outF_here F X hkl hk1 hk2 with ⟨hv1, hv2, hv3, hv4⟩ | ⟨hv1, hv2, hv3, hv4⟩ | ⟨hv1, hv2, hv3, hv4⟩ | ⟨hv1, hv2, hv3, hv4⟩
          · rw [if_neg (by omega), if_pos hv2] at hsgn
            have h0 : outS v X c k = wholeF 0 := by unfold outS; rw [if_pos (by omega)]
            rw [h0] at hLk
            rw [hy] at hv4
            rw [← hout1] at hv4
            simp -implicitDefEqProofs (disch := (first | omega | (simp only [go_sem] <;> omega) | fail)) only [go_sem, simprocAttr, h1, h7, h8, h33, h34, h35, hwl, hgl, hlt', hlx, hwho, hsgn, getD_int, hxc, ratRow_eq, hkl', hB, hLk, wrap_i64]
            refine Sat.drawn0 [12] mixed (by kernel_rfl) ?_
            simp -implicitDefEqProofs (disch := (first | omega | (simp only [go_sem] <;> omega) | fail)) only [go_sem, simprocAttr, h1, h7, h8, h33, h34, h35, hwl, hgl, hlt', hlx, hwho, hsgn, getD_int, hxc, ratRow_eq, hkl', hB, hLk, wrap_i64]
            refine exQ.intro (sratAdd_ok (wholeF 0) y (wholeF0_ok) hxo _ _ _ ⟨rfl, rfl⟩) ?_
            rw [addF_zero hxo hxs]
            unfold ratV
            simp -implicitDefEqProofs (disch := (first | omega | (simp only [go_sem] <;> omega) | fail)) only [go_sem, simprocAttr, h1, h7, h8, h33, h34, h35, hB, wrap_i64]
            exact ⟨cN v v.members.length - (c + 1), by omega, c + 1, kk, _, rfl, by omega, rfl, rfl, hO, hk, (by first | omega | (simp -implicitDefEqProofs (disch := (first | omega | (simp only [go_sem] <;> omega) | fail)) only [go_sem, simprocAttr]; omega)), by simp -implicitDefEqProofs (disch := (first | omega | (simp only [go_sem] <;> omega) | fail)) only [go_sem, simprocAttr], by simpa using hL, hfin _ hv4⟩
          · rw [if_pos hv1] at hsgn
            have h0 : outS v X c k = wholeF 0 := by unfold outS; rw [if_pos (by omega)]
            rw [h0] at hLk
            rw [hy] at hv4
            rw [← hout1] at hv4
            simp -implicitDefEqProofs (disch := (first | omega | (simp only [go_sem] <;> omega) | fail)) only [go_sem, simprocAttr, h1, h7, h8, h33, h34, h35, hwl, hgl, hlt', hlx, hwho, hsgn, getD_int, hxc, ratRow_eq, hkl', hB, hLk, wrap_i64]
            refine Sat.drawn0 [12] mixed (by kernel_rfl) ?_
            simp -implicitDefEqProofs (disch := (first | omega | (simp only [go_sem] <;> omega) | fail)) only [go_sem, simprocAttr, h1, h7, h8, h33, h34, h35, hwl, hgl, hlt', hlx, hwho, hsgn, getD_int, hxc, ratRow_eq, hkl', hB, hLk, wrap_i64]
            refine exQ.intro (sratSub_ok (wholeF 0) y (wholeF0_ok) hxo _ _ _ ⟨rfl, rfl⟩) ?_
            rw [subF_zero hxo hxs]
            unfold ratV
            simp -implicitDefEqProofs (disch := (first | omega | (simp only [go_sem] <;> omega) | fail)) only [go_sem, simprocAttr, h1, h7, h8, h33, h34, h35, hB, wrap_i64]
            exact ⟨cN v v.members.length - (c + 1), by omega, c + 1, kk, _, rfl, by omega, rfl, rfl, hO, hk, (by first | omega | (simp -implicitDefEqProofs (disch := (first | omega | (simp only [go_sem] <;> omega) | fail)) only [go_sem, simprocAttr]; omega)), by simp -implicitDefEqProofs (disch := (first | omega | (simp only [go_sem] <;> omega) | fail)) only [go_sem, simprocAttr], by simpa using hL, hfin _ hv4⟩
          · rw [if_neg (by omega), if_pos hv2] at hsgn
            have h0 : outS v X c k = wholeF 0 := by unfold outS; rw [if_pos (by omega)]
            rw [h0] at hLk
            rw [hy] at hv4
            rw [← hout1] at hv4
            simp -implicitDefEqProofs (disch := (first | omega | (simp only [go_sem] <;> omega) | fail)) only [go_sem, simprocAttr, h1, h7, h8, h33, h34, h35, hwl, hgl, hlt', hlx, hwho, hsgn, getD_int, hxc, ratRow_eq, hkl', hB, hLk, wrap_i64]
            refine Sat.drawn0 [12] mixed (by kernel_rfl) ?_
            simp -implicitDefEqProofs (disch := (first | omega | (simp only [go_sem] <;> omega) | fail)) only [go_sem, simprocAttr, h1, h7, h8, h33, h34, h35, hwl, hgl, hlt', hlx, hwho, hsgn, getD_int, hxc, ratRow_eq, hkl', hB, hLk, wrap_i64]
            refine exQ.intro (sratAdd_ok (wholeF 0) y (wholeF0_ok) hxo _ _ _ ⟨rfl, rfl⟩) ?_
            rw [addF_zero hxo hxs]
            unfold ratV
            simp -implicitDefEqProofs (disch := (first | omega | (simp only [go_sem] <;> omega) | fail)) only [go_sem, simprocAttr, h1, h7, h8, h33, h34, h35, hB, wrap_i64]
            exact ⟨cN v v.members.length - (c + 1), by omega, c + 1, kk, _, rfl, by omega, rfl, rfl, hO, hk, (by first | omega | (simp -implicitDefEqProofs (disch := (first | omega | (simp only [go_sem] <;> omega) | fail)) only [go_sem, simprocAttr]; omega)), by simp -implicitDefEqProofs (disch := (first | omega | (simp only [go_sem] <;> omega) | fail)) only [go_sem, simprocAttr], by simpa using hL, hfin _ hv4⟩
          · rw [if_neg (by omega), if_neg (by omega)] at hsgn
            have h0 : outS v X c k = X (cN v k) := by unfold outS; rw [if_neg (by omega), hv3]
            rw [h0] at hLk
            rw [hy] at hv4
            rw [← hout1] at hv4
            simp -implicitDefEqProofs (disch := (first | omega | (simp only [go_sem] <;> omega) | fail)) only [go_sem, simprocAttr, h1, h7, h8, h33, h34, h35, hwl, hgl, hlt', hlx, hwho, hsgn, getD_int, hxc, ratRow_eq, hkl', hB, hLk, wrap_i64]
            refine Sat.drawn0 [12] mixed (by kernel_rfl) ?_
            simp -implicitDefEqProofs (disch := (first | omega | (simp only [go_sem] <;> omega) | fail)) only [go_sem, simprocAttr, h1, h7, h8, h33, h34, h35, hwl, hgl, hlt', hlx, hwho, hsgn, getD_int, hxc, ratRow_eq, hkl', hB, hLk, wrap_i64]
            refine exQ.intro (sratSub_ok (X (cN v k)) y (hXo _) hxo _ _ _ ⟨rfl, rfl⟩) ?_
            skip
            unfold ratV
            simp -implicitDefEqProofs (disch := (first | omega | (simp only [go_sem] <;> omega) | fail)) only [go_sem, simprocAttr, h1, h7, h8, h33, h34, h35, hB, wrap_i64]
            exact ⟨cN v v.members.length - (c + 1), by omega, c + 1, kk, _, rfl, by omega, rfl, rfl, hO, hk, (by first | omega | (simp -implicitDefEqProofs (disch := (first | omega | (simp only [go_sem] <;> omega) | fail)) only [go_sem, simprocAttr]; omega)), by simp -implicitDefEqProofs (disch := (first | omega | (simp only [go_sem] <;> omega) | fail)) only [go_sem, simprocAttr], by simpa using hL, hfin _ hv4⟩
        · have hlt' : ¬ (c : Int) < (cN v v.members.length : Nat) := by omega
          have hie : c = cN v v.members.length := by omega
          subst hie
          have hLL : L = (outsF v q).map Fr.rv := by
            apply List.ext_getElem (by simpa [outsF] using hL)
            intro j h1 h2
            have := hA j (by omega)
            rw [getD_elem L j h1, outS_end F X (by omega)] at this
            rw [this]; simp [outsF, hXd]
          have hLs : ∀ r ∈ L, r.short := fun r hr => by
            rw [hLL] at hr
            obtain ⟨y, hy, rfl⟩ := List.mem_map.1 hr
            have := rv_lens (outsF_ok v q y hy)
            exact ⟨by omega, by omega⟩
          have hLv : (L.all fun r => r.fr.isSome) = (outsF v q).all Option.isSome := by
            rw [hLL, List.all_map]
            apply Bool.eq_iff_iff.2
            simp only [List.all_eq_true, Function.comp]
            exact ⟨fun h y hy => by rw [← rv_fr_isSome (outsF_ok v q y hy)]; exact h y hy, fun h y hy => by rw [rv_fr_isSome (outsF_ok v q y hy)]; exact h y hy⟩
          have htk : L.take v.members.length = L := List.take_of_length_le (by omega)
          simp -implicitDefEqProofs (disch := (first | omega | (simp only [go_sem] <;> omega) | fail)) only [go_sem, simprocAttr, h1, h7, h8, h33, h34, h35, hlt']
          refine callF.fz [kk] ?_
          refine ACall.eq_args (l' := [sl ratRow L]) (by simp -implicitDefEqProofs (disch := (first | omega | (simp only [go_sem] <;> omega) | fail)) only [go_sem, simprocAttr, hB, htk]) ?_
          refine svalid_ok L (by omega) hLs _ _ _ ?_
          rw [hLv]
          cases hq4 : (outsF v q).all Option.isSome with
          | false =>
            have hno := hno (if_neg (fun hh => by rw [hq4] at hh; exact absurd hh.2.2.2 (by simp)))
            simp -implicitDefEqProofs (disch := (first | omega | (simp only [go_sem] <;> omega) | fail)) only [go_sem, simprocAttr, hO]
            exact hno
          | true =>
            rw [if_pos ⟨ho, hc1, hc2, hq4⟩] at h
            rw [← hLL] at h
            simp -implicitDefEqProofs (disch := (first | omega | (simp only [go_sem] <;> omega) | fail)) only [go_sem, simprocAttr, h8, hB, htk, hO]
            exact h
    · have hc1' : ¬ (q.length : Int) = (cN v v.members.length : Nat) := by omega
      have hno := hno (if_neg (fun hh => hc1 hh.2.1))
      simp -implicitDefEqProofs (disch := (first | omega | (simp only [go_sem] <;> omega) | fail)) only [go_sem, simprocAttr, hwl, hc1']
      exact hno
end Go.Proofs.Qqz
