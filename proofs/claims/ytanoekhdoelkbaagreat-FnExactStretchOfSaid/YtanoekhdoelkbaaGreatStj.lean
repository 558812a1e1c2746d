/- Contracts: displacements and stretches. -/
import Derived.Test.YtanoekhdoelkbaaGreatSti
set_option linter.unusedSimpArgs false
set_option linter.unusedVariables false
namespace Go.Proofs.Qqz
open Go

def dN (v : SV) (j : Nat) : Nat := (freeTo v j).length
def fixedAt (v : SV) (j : Nat) : Bool := (v.joints.getD j default).fixed
def dispX (v : SV) (d : List RV) (j : Nat) : Fr := if fixedAt v j = true then wholeF 0 else frsOf d (2 * dN v j)
def dispY (v : SV) (d : List RV) (j : Nat) : Fr := if fixedAt v j = true then wholeF 0 else frsOf d (2 * dN v j + 1)
def movesB (v : SV) (d : List RV) : Bool := structOkB v && decide (d.length = 2 * (freeN v).length) && d.all fun r => r.fr.isSome

theorem dN_succ_f {v : SV} {j : Nat} (h : fixedAt v j = false) : dN v (j + 1) = dN v j + 1 := by
  unfold dN; rw [freeTo_succ_f h]; simp
theorem dN_succ_t {v : SV} {j : Nat} (h : fixedAt v j = true) : dN v (j + 1) = dN v j := by
  unfold dN; rw [freeTo_succ_t h]
theorem dN_mono (v : SV) {i j : Nat} (h : i ≤ j) : dN v i ≤ dN v j := by
  induction j with
  | zero => have : i = 0 := by omega
            subst this; exact Nat.le_refl _
  | succ j ih =>
    by_cases hij : i = j + 1
    · subst hij; exact Nat.le_refl _
    · have := ih (by omega)
      cases hf : fixedAt v j with
      | true => rw [dN_succ_t hf]; exact this
      | false => rw [dN_succ_f hf]; omega
theorem dN_all (v : SV) : dN v v.joints.length = (freeN v).length := by simp [dN, freeTo, freeN]
theorem dN_lt {v : SV} {j : Nat} (hj : j < v.joints.length) (hf : fixedAt v j = false) : dN v j < (freeN v).length := by
  have h1 := dN_mono v (show j + 1 ≤ v.joints.length by omega)
  rw [dN_succ_f hf, dN_all] at h1
  omega
/-- The i-th free joint is the one with i free joints ahead of it. -/
theorem dN_at (v : SV) : ∀ (n i : Nat) (h : i < (freeTo v n).length), ∃ j : Nat, (freeTo v n)[i] = (j : Int) ∧ j < n ∧ fixedAt v j = false ∧ dN v j = i
  | 0, i, h => by simp [freeTo] at h
  | n + 1, i, h => by
    cases hf : fixedAt v n with
    | true =>
      have e1 := freeTo_succ_t (v := v) (i := n) hf
      have h' : i < (freeTo v n).length := by rw [e1] at h; exact h
      obtain ⟨j, h1, h2, h3, h4⟩ := dN_at v n i h'
      refine ⟨j, ?_, by omega, h3, h4⟩
      rw [← h1]
      congr 1
    | false =>
      have e1 := freeTo_succ_f (v := v) (i := n) hf
      by_cases hi : i < (freeTo v n).length
      · obtain ⟨j, h1, h2, h3, h4⟩ := dN_at v n i hi
        refine ⟨j, ?_, by omega, h3, h4⟩
        rw [← h1]
        have : (freeTo v (n + 1))[i]? = (freeTo v n)[i]? := by rw [e1, List.getElem?_append_left hi]
        rw [List.getElem?_eq_getElem h, List.getElem?_eq_getElem hi] at this
        exact Option.some.inj this
      · have hl : (freeTo v (n + 1)).length = (freeTo v n).length + 1 := by rw [e1]; simp
        have hie : i = (freeTo v n).length := by omega
        refine ⟨n, ?_, by omega, hf, hie.symm⟩
        have : (freeTo v (n + 1))[i]? = some (n : Int) := by rw [e1, List.getElem?_append_right (by omega), hie]; simp
        rw [List.getElem?_eq_getElem h] at this
        exact Option.some.inj this

set_option maxRecDepth 100000 in
set_option maxHeartbeats 1000000 in
theorem loadsOf_ok (d : List RV) (n : Nat) (hd : d.length ≤ 2000000) (e : Env) (σ : St) (K : KT)
    (h : K (.tup (if d.length = n ∧ (d.all fun r => r.fr.isSome) = true then [sl frRow (d.map RV.fr), .lit (.bool true)] else [.ps [], .lit (.bool false)])) e σ) : ACall Tryz.prog 82 [sl ratRow d, .lit (.int .i64 (n : Nat))] e σ K := by
  refine ACall.pureW Tryz.func82 rfl Tryz.ntmps82 Tryz.results82 rfl rfl rfl ?_
  by_cases hc : d.length = n
  · have hc' : (d.length : Int) = (n : Int) := by omega
    simp -implicitDefEqProofs (disch := (first | omega | (simp only [go_sem] <;> omega) | fail)) only [go_sem, simprocAttr, hc']
    refine callF.plain (loads_ok d hd _ _ _ ?_)
    cases ha : (d.all fun r => r.fr.isSome) with
    | true =>
      rw [if_pos ⟨hc, ha⟩] at h
      simp -implicitDefEqProofs (disch := (first | omega | (simp only [go_sem] <;> omega) | fail)) only [go_sem, simprocAttr]
      exact h
    | false =>
      rw [if_neg (fun h => by rw [ha] at h; exact absurd h.2 (by simp))] at h
      simp -implicitDefEqProofs (disch := (first | omega | (simp only [go_sem] <;> omega) | fail)) only [go_sem, simprocAttr]
      exact h
  · have hc' : ¬ (d.length : Int) = (n : Int) := by omega
    rw [if_neg (fun h => hc h.1)] at h
    simp -implicitDefEqProofs (disch := (first | omega | (simp only [go_sem] <;> omega) | fail)) only [go_sem, simprocAttr, hc']
    exact h

theorem wholeF0_ok : (wholeF 0).ok := whole_small (by omega)
theorem dispX_ok (v : SV) (d : List RV) (j : Nat) : (dispX v d j).ok := by unfold dispX; split; exact wholeF0_ok; exact fr_ok _
theorem dispY_ok (v : SV) (d : List RV) (j : Nat) : (dispY v d j).ok := by unfold dispY; split; exact wholeF0_ok; exact fr_ok _

theorem movesB_facts {v : SV} {d : List RV} (h : movesB v d = true) : SFacts v ∧ d.length = 2 * (freeN v).length ∧ ∀ r ∈ d, r.fr.isSome = true := by
  unfold movesB at h
  simp only [Bool.and_eq_true, decide_eq_true_eq, List.all_eq_true] at h
  exact ⟨sfacts h.1.1, h.1.2, h.2⟩

set_option maxRecDepth 100000 in
set_option maxHeartbeats 1000000 in
theorem displacements_ok (v : SV) (d : List RV) (hs : ∀ j ∈ v.joints, j.name.size ≤ 1000000000) (hd : d.length ≤ 2000000) (k : Nat) (e : Env) (σ : St) (hk : k < σ.n) (hB : σ.h k = .deep 2 (structRows v)) (K : KT)
    (h0 : movesB v d = false → K (.tup [.ps [], .lit (.bool false)]) e σ)
    (h : movesB v d = true → ∀ L : List Fr, L.length = 2 * v.joints.length → (∀ j, j < v.joints.length → L.getD (2 * j) default = dispX v d j ∧ L.getD (2 * j + 1) default = dispY v d j) → K (.tup [sl frRow L, .lit (.bool true)]) e σ) :
    ACall Tryz.prog 72 [.ptr k 0 0, sl ratRow d] e σ K := by
  have hB0 := hB
  unfold structRows at hB0
  refine ACall.pureW Tryz.func72 rfl Tryz.ntmps72 Tryz.results72 rfl rfl rfl ?_
  simp -implicitDefEqProofs (disch := (first | omega | (simp only [go_sem] <;> omega) | fail)) only [go_sem, simprocAttr, hB0]
  refine callF.plain (structOk_ok v hs _ _ _ ?_)
  cases ho : structOkB v with
  | false =>
    have := h0 (by unfold movesB; rw [ho]; rfl)
    simp -implicitDefEqProofs (disch := (first | omega | (simp only [go_sem] <;> omega) | fail)) only [go_sem, simprocAttr]
    exact this
  | true =>
    have F := sfacts ho
    have hnj := F.nj
    have hfl := freeN_len v
    have hfz : (freeZ v).length = (freeN v).length := by simp [freeZ]
    have hfz2 : (freeTo v v.joints.length).length = (freeN v).length := by simp [freeTo, freeN]
    simp -implicitDefEqProofs (disch := (first | omega | (simp only [go_sem] <;> omega) | fail)) only [go_sem, simprocAttr]
    refine callF.plain ?_
    refine ACall.eq_args (l' := [.ptr k 0 0]) (by simp -implicitDefEqProofs (disch := (first | omega | (simp only [go_sem] <;> omega) | fail)) only [go_sem, simprocAttr]) ?_
    refine free_ok v k (by omega) _ _ (by first | omega | (simp -implicitDefEqProofs (disch := (first | omega | (simp only [go_sem] <;> omega) | fail)) only [go_sem, simprocAttr]; omega)) (by first | exact hB | simp -implicitDefEqProofs (disch := (first | omega | (simp only [go_sem] <;> omega) | fail)) only [go_sem, simprocAttr, hB]) _ ?_
    simp -implicitDefEqProofs (disch := (first | omega | (simp only [go_sem] <;> omega) | fail)) only [go_sem, simprocAttr, hfz, wrap_i64]
    refine callF.plain ?_
    refine ACall.eq_args (l' := [sl ratRow d, .lit (.int .i64 ((2 * (freeN v).length : Nat) : Int))]) (by simp -implicitDefEqProofs (disch := (first | omega | (simp only [go_sem] <;> omega) | fail)) only [go_sem, simprocAttr]; rfl) ?_
    refine loadsOf_ok d (2 * (freeN v).length) hd _ _ _ ?_
    by_cases hc : d.length = 2 * (freeN v).length ∧ (d.all fun r => r.fr.isSome) = true
    · have hm : movesB v d = true := by unfold movesB; rw [ho, hc.2, decide_eq_true hc.1]; rfl
      rw [if_pos hc]
      have en : (2 * (v.joints.length : Int)).toNat = 2 * v.joints.length := by omega
      simp -implicitDefEqProofs (disch := (first | omega | (simp only [go_sem] <;> omega) | fail)) only [go_sem, simprocAttr, hB0, wrap_i64, en]
      refine Sat.loopW (fun (t : Nat) e' σ' => ∃ (i kk : Nat) (L : List Fr), t = 2 * v.joints.length - i ∧ i ≤ 2 * v.joints.length ∧ e' 0 = .ptr k 0 0 ∧ e' 6 = ints (freeZ v) ∧ e' 7 = sl frRow (d.map RV.fr) ∧ e' 9 = .os kk 0 (2 * v.joints.length) ∧ e' 38 = .lit (.int .i64 ((2 * v.joints.length : Nat) : Int)) ∧ e' 39 = .lit (.int .i64 (i : Nat)) ∧
        σ.n ≤ kk ∧ kk < σ'.n ∧ σ'.h kk = bl frRow 1 L ∧ Old σ σ' ∧ L.length = 2 * v.joints.length ∧ ∀ j, j < i → L.getD j default = wholeF 0) (fun t => t) (2 * v.joints.length) rfl ?_ ?_
      · simp -implicitDefEqProofs (disch := (first | omega | (simp only [go_sem] <;> omega) | fail)) only [go_sem, simprocAttr]
        exact ⟨0, σ.n, List.replicate (2 * v.joints.length) none, by omega, by omega, rfl, rfl, by omega, by omega, by simp -implicitDefEqProofs (disch := (first | omega | (simp only [go_sem] <;> omega) | fail)) only [go_sem, simprocAttr], by simp, by omega⟩
      rintro t e1 σ1 ⟨i, kk, L, rfl, hi, g0, g6, g7, g9, g38, g39, hkk, hkn, hBk, hO, hL, hA⟩
      by_cases hlt : i < 2 * v.joints.length
      · have hlt' : (i : Int) < ((2 * v.joints.length : Nat) : Int) := by omega
        simp -implicitDefEqProofs (disch := (first | omega | (simp only [go_sem] <;> omega) | fail)) only [go_sem, simprocAttr, g0, g6, g7, g9, g38, g39, hlt']
        refine callF.plain (whole_ok 0 (by omega) (by omega) _ _ _ ?_)
        simp -implicitDefEqProofs (disch := (first | omega | (simp only [go_sem] <;> omega) | fail)) only [go_sem, simprocAttr, g0, g6, g7, g9, g38, g39, hBk, wrap_i64]
        refine ⟨2 * v.joints.length - (i + 1), by omega, i + 1, kk, L.set i (wholeF 0), rfl, by omega, rfl, rfl, hkk, by omega, by simp -implicitDefEqProofs (disch := (first | omega | (simp only [go_sem] <;> omega) | fail)) only [go_sem, simprocAttr], by simp -implicitDefEqProofs (disch := (first | omega | (simp only [go_sem] <;> omega) | fail)) only [go_sem, simprocAttr, hO], by simpa using hL, fun j hj => ?_⟩
        by_cases hji : j = i
        · subst hji; simp [List.getD, hL, hlt]
        · rw [List.getD, List.getElem?_set_ne (by omega)]
          exact hA j (by omega)
      have hlt' : ¬ (i : Int) < ((2 * v.joints.length : Nat) : Int) := by omega
      have hie : i = 2 * v.joints.length := by omega
      subst hie
      simp -implicitDefEqProofs (disch := (first | omega | (simp only [go_sem] <;> omega) | fail)) only [go_sem, simprocAttr, g0, g6, g7, g9, g38, g39, hlt', hfz]
      refine Sat.loopW (fun (t : Nat) e' σ' => ∃ (i kk : Nat) (L : List Fr), t = (freeN v).length - i ∧ i ≤ (freeN v).length ∧ e' 7 = sl frRow (d.map RV.fr) ∧ e' 9 = .os kk 0 (2 * v.joints.length) ∧ e' 47 = ints (freeZ v) ∧ e' 48 = .lit (.int .i64 (freeN v).length) ∧ e' 49 = .lit (.int .i64 (i : Nat)) ∧
        σ.n ≤ kk ∧ kk < σ'.n ∧ σ'.h kk = bl frRow 1 L ∧ Old σ σ' ∧ L.length = 2 * v.joints.length ∧ ∀ j, j < v.joints.length → (fixedAt v j = false ∧ dN v j < i → L.getD (2 * j) default = frsOf d (2 * dN v j) ∧ L.getD (2 * j + 1) default = frsOf d (2 * dN v j + 1)) ∧ (fixedAt v j = true → L.getD (2 * j) default = wholeF 0 ∧ L.getD (2 * j + 1) default = wholeF 0)) (fun t => t) (freeN v).length rfl ?_ ?_
      · simp -implicitDefEqProofs (disch := (first | omega | (simp only [go_sem] <;> omega) | fail)) only [go_sem, simprocAttr, g0, g6, g7, g9, hfz]
        exact ⟨0, kk, L, by omega, by omega, rfl, rfl, hkk, hkn, hBk, hO, hL, fun j hj => ⟨by omega, fun _ => ⟨hA _ (by omega), hA _ (by omega)⟩⟩⟩
      clear hA hL hO hBk hkn hkk hlt' hlt g39 g38 g9 g7 g6 g0
      rintro t e2 σ2 ⟨i, kk, L, rfl, hi, g7, g9, g47, g48, g49, hkk, hkn, hBk, hO, hL, hA⟩
      by_cases hlt : i < (freeN v).length
      · have hlt' : (i : Int) < (freeN v).length := by omega
        have hlz : (i : Int) < (freeZ v).length := by omega
        obtain ⟨j, hj1, hj2, hj3, hj4⟩ := dN_at v v.joints.length i (by omega)
        have hgz : (freeZ v).getD i 0 = (j : Int) := by
          rw [getD_elem _ i (by omega)]
          exact hj1
        have i1 : (2 * (j : Int)).toNat = 2 * j := by omega
        have i2 : (2 * (j : Int) + 1).toNat = 2 * j + 1 := by omega
        have i3 : (2 * (i : Int)).toNat = 2 * i := by omega
        have i4 : (2 * (i : Int) + 1).toNat = 2 * i + 1 := by omega
        have f1 : (d.map RV.fr).getD (2 * i) default = frsOf d (2 * i) := congrFun (frsOf_eq d) _
        have f2 : (d.map RV.fr).getD (2 * i + 1) default = frsOf d (2 * i + 1) := congrFun (frsOf_eq d) _
        have hdl := hc.1
        simp -implicitDefEqProofs (disch := (first | omega | (simp only [go_sem] <;> omega) | fail)) only [go_sem, simprocAttr, g7, g9, g47, g48, g49, hlt', hlz, getD_int, hgz]
        refine Sat.drawnU [18, 19, 20, 21] (.one 18 (.one 19 (.one 20 (.one 21 .leaf)))) mixed (by kernel_rfl) ?_
        simp -implicitDefEqProofs (disch := (first | omega | (simp only [go_sem] <;> omega) | fail)) only [go_sem, simprocAttr, g7, g9, g47, g48, g49, hBk, wrap_i64, i1, i2, i3, i4, frRow_eq, f1, f2]
        refine ⟨(freeN v).length - (i + 1), by omega, i + 1, kk, (L.set (2 * j) (frsOf d (2 * i))).set (2 * j + 1) (frsOf d (2 * i + 1)), rfl, by omega, rfl, rfl, hkk, by omega, by simp -implicitDefEqProofs (disch := (first | omega | (simp only [go_sem] <;> omega) | fail)) only [go_sem, simprocAttr], by simp -implicitDefEqProofs (disch := (first | omega | (simp only [go_sem] <;> omega) | fail)) only [go_sem, simprocAttr, hO], by simpa using hL, fun j' hj' => ?_⟩
        have n1 : ∀ m w, m ≠ 2 * j → m ≠ 2 * j + 1 → ((L.set (2 * j) w).set (2 * j + 1) (frsOf d (2 * i + 1))).getD m default = L.getD m default := by
          intro m w h1 h2
          rw [List.getD, List.getElem?_set_ne (by omega), List.getElem?_set_ne (by omega)]; rfl
        by_cases hjj : j' = j
        · subst hjj
          refine ⟨fun _ => ?_, fun hf => by rw [hj3] at hf; cases hf⟩
          rw [hj4]
          constructor
          · rw [List.getD, List.getElem?_set_ne (by omega), List.getElem?_set_self (by omega)]; rfl
          · rw [List.getD, List.getElem?_set_self (by simp; omega)]; rfl
        · obtain ⟨q1, q2⟩ := hA j' hj'
          rw [n1 _ _ (by omega) (by omega), n1 _ _ (by omega) (by omega)]
          refine ⟨fun ⟨hf, hd'⟩ => ?_, q2⟩
          by_cases hlt2 : dN v j' < i
          · exact q1 ⟨hf, hlt2⟩
          · exfalso
            have heq : dN v j' = dN v j := by omega
            rcases Nat.lt_or_gt_of_ne hjj with h1 | h1
            · have := dN_mono v (show j' + 1 ≤ j by omega)
              rw [dN_succ_f hf] at this; omega
            · have := dN_mono v (show j + 1 ≤ j' by omega)
              rw [dN_succ_f hj3] at this; omega
      · have hlt' : ¬ (i : Int) < (freeN v).length := by omega
        have hie : i = (freeN v).length := by omega
        subst hie
        have hLt : L.take (2 * v.joints.length) = L := List.take_of_length_le (by omega)
        have := h hm L hL (fun j hj => by
          obtain ⟨q1, q2⟩ := hA j hj
          unfold dispX dispY
          cases hf : fixedAt v j with
          | true => simpa using q2 hf
          | false => simpa using q1 ⟨hf, dN_lt hj hf⟩)
        simp -implicitDefEqProofs (disch := (first | omega | (simp only [go_sem] <;> omega) | fail)) only [go_sem, simprocAttr, g7, g9, g47, g48, g49, hlt', hBk, hO, hLt]
        exact this
    · have := h0 (by
        unfold movesB; rw [ho]
        by_cases h1 : d.length = 2 * (freeN v).length
        · have h2 : (d.all fun r => r.fr.isSome) = false := by
            cases h3 : (d.all fun r => r.fr.isSome) with
            | false => rfl
            | true => exact absurd ⟨h1, h3⟩ hc
          rw [h2, Bool.and_false]
        · rw [decide_eq_false h1]; rfl)
      rw [if_neg hc]
      simp -implicitDefEqProofs (disch := (first | omega | (simp only [go_sem] <;> omega) | fail)) only [go_sem, simprocAttr]
      exact this
end Go.Proofs.Qqz
