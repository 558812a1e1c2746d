/- Contracts: signs of densities, equilibria. -/
import Derived.Test.YtanoekhdoelkbaaGreatSth
set_option linter.unusedSimpArgs false
set_option linter.unusedVariables false
namespace Go.Proofs.Qqz
open Go

def signAt (v : SV) (q : List RV) (i : Nat) : Bool :=
  !((decide ((v.members.getD i default).kind = 1) && decide (sgnF (frsOf q i) < 0)) || (decide ((v.members.getD i default).kind = 2) && decide (0 < sgnF (frsOf q i))))
def signsB (v : SV) (q : List RV) : Bool := densB v q && (List.range v.members.length).all (signAt v q)

set_option maxRecDepth 100000 in
set_option maxHeartbeats 1000000 in
theorem hasSigns_ok (v : SV) (q : List RV) (hs : ∀ j ∈ v.joints, j.name.size ≤ 1000000000) (hq : q.length ≤ 2000000) (e : Env) (σ : St) (K : KT) (h : K (.lit (.bool (signsB v q))) e σ) :
    ACall Tryz.prog 70 [structV v, sl ratRow q] e σ K := by
  unfold structV
  unfold signsB at h
  refine ACall.pureW Tryz.func70 rfl Tryz.ntmps70 Tryz.results70 rfl rfl rfl ?_
  simp -implicitDefEqProofs (disch := (first | omega | (simp only [go_sem] <;> omega) | fail)) only [go_sem, simprocAttr]
  refine callF.plain ?_
  refine ACall.eq_args (l' := [.ptr σ.n 0 0, sl ratRow q]) (by simp -implicitDefEqProofs (disch := (first | omega | (simp only [go_sem] <;> omega) | fail)) only [go_sem, simprocAttr]) ?_
  refine densities_ok v q hs hq σ.n _ _ (by first | omega | (simp -implicitDefEqProofs (disch := (first | omega | (simp only [go_sem] <;> omega) | fail)) only [go_sem, simprocAttr]; omega)) (by simp -implicitDefEqProofs (disch := (first | omega | (simp only [go_sem] <;> omega) | fail)) only [go_sem, simprocAttr]; rfl) _ ?_
  cases hd : densB v q with
  | false =>
    rw [hd] at h
    simp -implicitDefEqProofs (disch := (first | omega | (simp only [go_sem] <;> omega) | fail)) only [go_sem, simprocAttr]
    exact h
  | true =>
    rw [hd] at h
    obtain ⟨F, hlq, hv⟩ := densB_facts hd
    have hnm := F.nm
    simp -implicitDefEqProofs (disch := (first | omega | (simp only [go_sem] <;> omega) | fail)) only [go_sem, simprocAttr]
    refine Sat.loopW (fun (t : Nat) e' σ' => ∃ i, t = v.members.length - i ∧ i ≤ v.members.length ∧ e' 5 = sl frRow (q.map RV.fr) ∧ e' 18 = sl memRow v.members ∧ e' 19 = .lit (.int .i64 v.members.length) ∧ e' 20 = .lit (.int .i64 (i : Nat)) ∧ Old σ σ' ∧ (∀ j, j < i → signAt v q j = true)) (fun t => t) v.members.length rfl ?_ ?_
    · simp -implicitDefEqProofs (disch := (first | omega | (simp only [go_sem] <;> omega) | fail)) only [go_sem, simprocAttr]
      exact ⟨0, by omega, by omega, rfl, by omega⟩
    rintro t e1 σ1 ⟨i, rfl, hi, h5, h18, h19, h20, hO, hA⟩
    have hOn := hO.1
    by_cases hlt : i < v.members.length
    · have hlt' : (i : Int) < v.members.length := by omega
      have hlq' : (i : Int) < q.length := by omega
      obtain ⟨m, hm⟩ : ∃ m, v.members.getD i default = m := ⟨_, rfl⟩
      have hri : (q.getD i default).fr.isSome = true := by
        rw [getD_elem q i (by omega)]
        exact hv _ (List.getElem_mem _)
      have hfi : (q.map RV.fr).getD i default = frsOf q i := congrFun (frsOf_eq q) i
      obtain ⟨x, hx⟩ : ∃ x, (q.getD i default).fr = x := ⟨_, rfl⟩
      have hfo : frsOf q i = x := hx
      rw [hx] at hri
      rw [hfo] at hfi
      match x, hri with
      | some (n, d), _ =>
        have hsf : sgnF (some (n, d)) = sgnZ n := rfl
        have hat : signAt v q i = !((decide (m.kind = 1) && decide (sgnZ n < 0)) || (decide (m.kind = 2) && decide (0 < sgnZ n))) := by
          unfold signAt; rw [hm, hfo]; rfl
        have hfr : frRow (some (n, d)) = [ratP n d] := rfl
        unfold ratP at hfr
        simp -implicitDefEqProofs (disch := (first | omega | (simp only [go_sem] <;> omega) | fail)) only [go_sem, simprocAttr, h5, h18, h19, h20, hlt', hlq', hm, memRow_eq, hfi, hfr]
        refine callF.plain (ratSign_ok n d _ _ _ ?_)
        by_cases k1 : m.kind = 1
        · have k2 : ¬ m.kind = 2 := by omega
          by_cases s1 : sgnZ n < 0
          · skip
            simp -implicitDefEqProofs (disch := (first | omega | (simp only [go_sem] <;> omega) | fail)) only [go_sem, simprocAttr, h5, h18, h19, h20, memRow_eq, wrap_i64, hO, k1, s1]
            first
            | (have hbad : signAt v q i = false := by
                rw [hat]; simp [k1, s1]
               rw [range_all_false hlt hbad] at h
               exact h)
            | (have hgood : signAt v q i = true := by
                rw [hat]; simp [k1, s1]
               refine ⟨v.members.length - (i + 1), by omega, i + 1, rfl, by omega, rfl, fun j hj => ?_⟩
               by_cases hji : j = i
               · rw [hji]; exact hgood
               · exact hA j (by omega))
          · skip
            simp -implicitDefEqProofs (disch := (first | omega | (simp only [go_sem] <;> omega) | fail)) only [go_sem, simprocAttr, h5, h18, h19, h20, memRow_eq, wrap_i64, hO, k1, s1, k2]
            first
            | (have hbad : signAt v q i = false := by
                rw [hat]; simp [k1, s1, k2]
               rw [range_all_false hlt hbad] at h
               exact h)
            | (have hgood : signAt v q i = true := by
                rw [hat]; simp [k1, s1, k2]
               refine ⟨v.members.length - (i + 1), by omega, i + 1, rfl, by omega, rfl, fun j hj => ?_⟩
               by_cases hji : j = i
               · rw [hji]; exact hgood
               · exact hA j (by omega))
        · by_cases k2 : m.kind = 2
          · by_cases s1 : 0 < sgnZ n
            · skip
              simp -implicitDefEqProofs (disch := (first | omega | (simp only [go_sem] <;> omega) | fail)) only [go_sem, simprocAttr, h5, h18, h19, h20, memRow_eq, wrap_i64, hO, k1, k2, s1]
              first
              | (have hbad : signAt v q i = false := by
                  rw [hat]; simp [k1, k2, s1]
                 rw [range_all_false hlt hbad] at h
                 exact h)
              | (have hgood : signAt v q i = true := by
                  rw [hat]; simp [k1, k2, s1]
                 refine ⟨v.members.length - (i + 1), by omega, i + 1, rfl, by omega, rfl, fun j hj => ?_⟩
                 by_cases hji : j = i
                 · rw [hji]; exact hgood
                 · exact hA j (by omega))
            · skip
              simp -implicitDefEqProofs (disch := (first | omega | (simp only [go_sem] <;> omega) | fail)) only [go_sem, simprocAttr, h5, h18, h19, h20, memRow_eq, wrap_i64, hO, k1, k2, s1]
              first
              | (have hbad : signAt v q i = false := by
                  rw [hat]; simp [k1, k2, s1]
                 rw [range_all_false hlt hbad] at h
                 exact h)
              | (have hgood : signAt v q i = true := by
                  rw [hat]; simp [k1, k2, s1]
                 refine ⟨v.members.length - (i + 1), by omega, i + 1, rfl, by omega, rfl, fun j hj => ?_⟩
                 by_cases hji : j = i
                 · rw [hji]; exact hgood
                 · exact hA j (by omega))
          · skip
            simp -implicitDefEqProofs (disch := (first | omega | (simp only [go_sem] <;> omega) | fail)) only [go_sem, simprocAttr, h5, h18, h19, h20, memRow_eq, wrap_i64, hO, k1, k2]
            first
            | (have hbad : signAt v q i = false := by
                rw [hat]; simp [k1, k2]
               rw [range_all_false hlt hbad] at h
               exact h)
            | (have hgood : signAt v q i = true := by
                rw [hat]; simp [k1, k2]
               refine ⟨v.members.length - (i + 1), by omega, i + 1, rfl, by omega, rfl, fun j hj => ?_⟩
               by_cases hji : j = i
               · rw [hji]; exact hgood
               · exact hA j (by omega))
    · have hlt' : ¬ (i : Int) < v.members.length := by omega
      have hall := range_all_true (n := v.members.length) (p := signAt v q) (fun j hj => hA j (by omega))
      rw [hall] at h
      simp -implicitDefEqProofs (disch := (first | omega | (simp only [go_sem] <;> omega) | fail)) only [go_sem, simprocAttr, h5, h18, h19, h20, hlt', hO]
      exact h

set_option maxRecDepth 100000 in
set_option maxHeartbeats 1000000 in
theorem shasSigns_ok (v : SV) (q : List RV) (hs : ∀ j ∈ v.joints, j.name.size ≤ 1000000000) (hq : q.length ≤ 2000000) (hsh : ∀ r ∈ q, r.short) (e : Env) (σ : St) (K : KT) (h : K (.lit (.bool (signsB v q))) e σ) :
    ACall Tryz.prog 69 [structV v, sl ratRow q] e σ K := by
  unfold structV
  unfold signsB at h
  refine ACall.pureW Tryz.func69 rfl Tryz.ntmps69 Tryz.results69 rfl rfl rfl ?_
  simp -implicitDefEqProofs (disch := (first | omega | (simp only [go_sem] <;> omega) | fail)) only [go_sem, simprocAttr]
  refine callF.plain (sfits_ok v q hs hq hsh _ _ _ ?_)
  cases hd : densB v q with
  | false =>
    rw [hd] at h
    simp -implicitDefEqProofs (disch := (first | omega | (simp only [go_sem] <;> omega) | fail)) only [go_sem, simprocAttr]
    exact h
  | true =>
    rw [hd] at h
    obtain ⟨F, hlq, hv⟩ := densB_facts hd
    have hnm := F.nm
    simp -implicitDefEqProofs (disch := (first | omega | (simp only [go_sem] <;> omega) | fail)) only [go_sem, simprocAttr]
    refine Sat.loopW (fun (t : Nat) e' σ' => ∃ i, t = v.members.length - i ∧ i ≤ v.members.length ∧ e' 1 = sl ratRow q ∧ e' 13 = sl memRow v.members ∧ e' 14 = .lit (.int .i64 v.members.length) ∧ e' 15 = .lit (.int .i64 (i : Nat)) ∧ Old σ σ' ∧ (∀ j, j < i → signAt v q j = true)) (fun t => t) v.members.length rfl ?_ ?_
    · simp -implicitDefEqProofs (disch := (first | omega | (simp only [go_sem] <;> omega) | fail)) only [go_sem, simprocAttr]
      exact ⟨0, by omega, by omega, rfl, by omega⟩
    rintro t e1 σ1 ⟨i, rfl, hi, h5, h18, h19, h20, hO, hA⟩
    have hOn := hO.1
    by_cases hlt : i < v.members.length
    · have hlt' : (i : Int) < v.members.length := by omega
      have hlq' : (i : Int) < q.length := by omega
      obtain ⟨m, hm⟩ : ∃ m, v.members.getD i default = m := ⟨_, rfl⟩
      have hri : (q.getD i default).fr.isSome = true := by
        rw [getD_elem q i (by omega)]
        exact hv _ (List.getElem_mem _)
      have hre := rv_of_fr hri
      have hqk := fr_ok (q.getD i default)
      obtain ⟨x, hx⟩ : ∃ x, (q.getD i default).fr = x := ⟨_, rfl⟩
      have hfo : frsOf q i = x := hx
      rw [hx] at hre hqk
      have hat : signAt v q i = !((decide (m.kind = 1) && decide (sgnF x < 0)) || (decide (m.kind = 2) && decide (0 < sgnF x))) := by
        unfold signAt; rw [hm, hfo]
      simp -implicitDefEqProofs (disch := (first | omega | (simp only [go_sem] <;> omega) | fail)) only [go_sem, simprocAttr, h5, h18, h19, h20, hlt', hlq', hm, memRow_eq, hre, ratRow_eq]
      refine callF.plain (sratSign_ok x hqk _ _ _ ?_)
      by_cases k1 : m.kind = 1
      · have k2 : ¬ m.kind = 2 := by omega
        by_cases s1 : sgnF x < 0
        · skip
          simp -implicitDefEqProofs (disch := (first | omega | (simp only [go_sem] <;> omega) | fail)) only [go_sem, simprocAttr, h5, h18, h19, h20, memRow_eq, wrap_i64, hO, k1, s1]
          first
          | (have hbad : signAt v q i = false := by
              rw [hat]; simp [k1, s1]
             rw [range_all_false hlt hbad] at h
             exact h)
          | (have hgood : signAt v q i = true := by
              rw [hat]; simp [k1, s1]
             refine ⟨v.members.length - (i + 1), by omega, i + 1, rfl, by omega, rfl, fun j hj => ?_⟩
             by_cases hji : j = i
             · rw [hji]; exact hgood
             · exact hA j (by omega))
        · skip
          simp -implicitDefEqProofs (disch := (first | omega | (simp only [go_sem] <;> omega) | fail)) only [go_sem, simprocAttr, h5, h18, h19, h20, memRow_eq, wrap_i64, hO, k1, s1, k2]
          first
          | (have hbad : signAt v q i = false := by
              rw [hat]; simp [k1, s1, k2]
             rw [range_all_false hlt hbad] at h
             exact h)
          | (have hgood : signAt v q i = true := by
              rw [hat]; simp [k1, s1, k2]
             refine ⟨v.members.length - (i + 1), by omega, i + 1, rfl, by omega, rfl, fun j hj => ?_⟩
             by_cases hji : j = i
             · rw [hji]; exact hgood
             · exact hA j (by omega))
      · by_cases k2 : m.kind = 2
        · by_cases s1 : 0 < sgnF x
          · skip
            simp -implicitDefEqProofs (disch := (first | omega | (simp only [go_sem] <;> omega) | fail)) only [go_sem, simprocAttr, h5, h18, h19, h20, memRow_eq, wrap_i64, hO, k1, k2, s1]
            first
            | (have hbad : signAt v q i = false := by
                rw [hat]; simp [k1, k2, s1]
               rw [range_all_false hlt hbad] at h
               exact h)
            | (have hgood : signAt v q i = true := by
                rw [hat]; simp [k1, k2, s1]
               refine ⟨v.members.length - (i + 1), by omega, i + 1, rfl, by omega, rfl, fun j hj => ?_⟩
               by_cases hji : j = i
               · rw [hji]; exact hgood
               · exact hA j (by omega))
          · skip
            simp -implicitDefEqProofs (disch := (first | omega | (simp only [go_sem] <;> omega) | fail)) only [go_sem, simprocAttr, h5, h18, h19, h20, memRow_eq, wrap_i64, hO, k1, k2, s1]
            first
            | (have hbad : signAt v q i = false := by
                rw [hat]; simp [k1, k2, s1]
               rw [range_all_false hlt hbad] at h
               exact h)
            | (have hgood : signAt v q i = true := by
                rw [hat]; simp [k1, k2, s1]
               refine ⟨v.members.length - (i + 1), by omega, i + 1, rfl, by omega, rfl, fun j hj => ?_⟩
               by_cases hji : j = i
               · rw [hji]; exact hgood
               · exact hA j (by omega))
        · skip
          simp -implicitDefEqProofs (disch := (first | omega | (simp only [go_sem] <;> omega) | fail)) only [go_sem, simprocAttr, h5, h18, h19, h20, memRow_eq, wrap_i64, hO, k1, k2]
          first
          | (have hbad : signAt v q i = false := by
              rw [hat]; simp [k1, k2]
             rw [range_all_false hlt hbad] at h
             exact h)
          | (have hgood : signAt v q i = true := by
              rw [hat]; simp [k1, k2]
             refine ⟨v.members.length - (i + 1), by omega, i + 1, rfl, by omega, rfl, fun j hj => ?_⟩
             by_cases hji : j = i
             · rw [hji]; exact hgood
             · exact hA j (by omega))
    · have hlt' : ¬ (i : Int) < v.members.length := by omega
      have hall := range_all_true (n := v.members.length) (p := signAt v q) (fun j hj => hA j (by omega))
      rw [hall] at h
      simp -implicitDefEqProofs (disch := (first | omega | (simp only [go_sem] <;> omega) | fail)) only [go_sem, simprocAttr, h5, h18, h19, h20, hlt', hO]
      exact h

def equB (v : SV) (l : List Int) (q : List RV) : Bool := balB v l q && signsB v q

set_option maxRecDepth 100000 in
set_option maxHeartbeats 1000000 in
theorem isEqu_ok (v : SV) (l : List Int) (q : List RV) (hs : ∀ j ∈ v.joints, j.name.size ≤ 1000000000) (hjn : v.joints.length ≤ 2000000) (hq : q.length ≤ 2000000) (hl : l.length ≤ 1000000000) (e : Env) (σ : St) (K : KT) (h : K (.lit (.bool (equB v l q))) e σ) :
    ACall Tryz.prog 26 [structV v, ints l, sl ratRow q] e σ K := by
  unfold structV
  unfold equB at h
  refine ACall.pureW Tryz.func26 rfl Tryz.ntmps26 Tryz.results26 rfl rfl rfl ?_
  simp -implicitDefEqProofs (disch := (first | omega | (simp only [go_sem] <;> omega) | fail)) only [go_sem, simprocAttr]
  refine callF.plain (isBalanced_ok v l q hs hjn hq hl _ _ _ ?_)
  cases hb : balB v l q with
  | false =>
    rw [hb] at h
    simp -implicitDefEqProofs (disch := (first | omega | (simp only [go_sem] <;> omega) | fail)) only [go_sem, simprocAttr]
    exact h
  | true =>
    rw [hb] at h
    simp -implicitDefEqProofs (disch := (first | omega | (simp only [go_sem] <;> omega) | fail)) only [go_sem, simprocAttr]
    refine callF.plain (hasSigns_ok v q hs hq _ _ _ ?_)
    simp -implicitDefEqProofs (disch := (first | omega | (simp only [go_sem] <;> omega) | fail)) only [go_sem, simprocAttr]
    exact h

set_option maxRecDepth 100000 in
set_option maxHeartbeats 1000000 in
theorem sisEqu_ok (v : SV) (l : List Int) (q : List RV) (hs : ∀ j ∈ v.joints, j.name.size ≤ 1000000000) (hjn : v.joints.length ≤ 2000000) (hq : q.length ≤ 2000000) (hl : l.length ≤ 1000000000) (hsh : ∀ r ∈ q, r.short) (e : Env) (σ : St) (K : KT) (h : K (.lit (.bool (equB v l q))) e σ) :
    ACall Tryz.prog 25 [structV v, ints l, sl ratRow q] e σ K := by
  unfold structV
  unfold equB at h
  refine ACall.pureW Tryz.func25 rfl Tryz.ntmps25 Tryz.results25 rfl rfl rfl ?_
  simp -implicitDefEqProofs (disch := (first | omega | (simp only [go_sem] <;> omega) | fail)) only [go_sem, simprocAttr]
  refine callF.plain (sisBalanced_ok v l q hs hjn hq hl hsh _ _ _ ?_)
  cases hb : balB v l q with
  | false =>
    rw [hb] at h
    simp -implicitDefEqProofs (disch := (first | omega | (simp only [go_sem] <;> omega) | fail)) only [go_sem, simprocAttr]
    exact h
  | true =>
    rw [hb] at h
    simp -implicitDefEqProofs (disch := (first | omega | (simp only [go_sem] <;> omega) | fail)) only [go_sem, simprocAttr]
    refine callF.plain (shasSigns_ok v q hs hq hsh _ _ _ ?_)
    simp -implicitDefEqProofs (disch := (first | omega | (simp only [go_sem] <;> omega) | fail)) only [go_sem, simprocAttr]
    exact h
end Go.Proofs.Qqz
