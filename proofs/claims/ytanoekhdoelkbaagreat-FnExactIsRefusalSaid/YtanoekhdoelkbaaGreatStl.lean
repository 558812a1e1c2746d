/- Contracts: refusals. -/
import Derived.Test.YtanoekhdoelkbaaGreatStk
set_option linter.unusedSimpArgs false
set_option linter.unusedVariables false
namespace Go.Proofs.Qqz
open Go

def kindAt (v : SV) (i : Nat) : Int := (v.members.getD i default).kind
def refAt (v : SV) (d : List RV) (i : Nat) : Bool :=
  (stretchF v d i).isSome && !((decide (kindAt v i ≠ 2) && decide (0 < sgnF (stretchF v d i))) || (decide (kindAt v i ≠ 1) && decide (sgnF (stretchF v d i) < 0)))
def freeAt (v : SV) (i : Nat) : Nat := ((freeZ v).getD i 0).toNat
def workX (v : SV) (l : List Int) (d : List RV) (j : Nat) : Fr := mulF (wholeF (l.getD (2 * j) 0)) (dispX v d j)
def workY (v : SV) (l : List Int) (d : List RV) (j : Nat) : Fr := mulF (wholeF (l.getD (2 * j + 1) 0)) (dispY v d j)
def workTo (v : SV) (l : List Int) (d : List RV) : Nat → Fr
  | 0 => wholeF 0
  | i + 1 => addF (addF (workTo v l d i) (workX v l d (freeAt v i))) (workY v l d (freeAt v i))
def workF (v : SV) (l : List Int) (d : List RV) : Fr := workTo v l d (freeN v).length
def refB (v : SV) (l : List Int) (d : List RV) : Bool := movesB v d && loadOkB v l && (List.range v.members.length).all (refAt v d) && decide (0 < sgnF (workF v l d))

theorem workX_ok {v : SV} {l : List Int} (hl : loadOkB v l = true) (d : List RV) (j : Nat) : (workX v l d j).ok := by
  obtain ⟨_, hlb⟩ := loadOkB_facts hl
  have := hlb (2 * j)
  exact mulF_ok (whole_small (by omega)) (dispX_ok _ _ _)
theorem workY_ok {v : SV} {l : List Int} (hl : loadOkB v l = true) (d : List RV) (j : Nat) : (workY v l d j).ok := by
  obtain ⟨_, hlb⟩ := loadOkB_facts hl
  have := hlb (2 * j + 1)
  exact mulF_ok (whole_small (by omega)) (dispY_ok _ _ _)
theorem workTo_ok {v : SV} {l : List Int} (hl : loadOkB v l = true) (d : List RV) : ∀ i, (workTo v l d i).ok
  | 0 => wholeF0_ok
  | i + 1 => addF_ok (addF_ok (workTo_ok hl d i) (workX_ok hl d _)) (workY_ok hl d _)

theorem freeAt_facts {v : SV} {i : Nat} (h : i < (freeN v).length) : (freeZ v).getD i 0 = (freeAt v i : Int) ∧ freeAt v i < v.joints.length ∧ fixedAt v (freeAt v i) = false ∧ dN v (freeAt v i) = i := by
  have hfz : (freeZ v).length = (freeN v).length := by simp [freeZ]
  have hfz2 : (freeTo v v.joints.length).length = (freeN v).length := by simp [freeTo, freeN]
  obtain ⟨j, hj1, hj2, hj3, hj4⟩ := dN_at v v.joints.length i (by omega)
  have hgz : (freeZ v).getD i 0 = (j : Int) := by
    rw [getD_elem _ i (by omega)]
    exact hj1
  have : freeAt v i = j := by unfold freeAt; rw [hgz]; rfl
  rw [this]
  exact ⟨hgz, hj2, hj3, hj4⟩

set_option maxRecDepth 100000 in
set_option maxHeartbeats 1000000 in
theorem isRefusal_ok (v : SV) (l : List Int) (d : List RV) (hs : ∀ j ∈ v.joints, j.name.size ≤ 1000000000) (hjn : v.joints.length ≤ 2000000) (hd : d.length ≤ 2000000) (hl : l.length ≤ 1000000000) (e : Env) (σ : St) (K : KT) (h : K (.lit (.bool (refB v l d))) e σ) :
    ACall Tryz.prog 28 [structV v, ints l, sl ratRow d] e σ K := by
  unfold structV
  unfold refB at h
  refine ACall.pureW Tryz.func28 rfl Tryz.ntmps28 Tryz.results28 rfl rfl rfl ?_
  simp -implicitDefEqProofs (disch := (first | omega | (simp only [go_sem] <;> omega) | fail)) only [go_sem, Nat.reduceEqDiff, ↓reduceIte, Nat.reduceAdd, Nat.reduceLT, Nat.reduceLeDiff, Nat.reduceSub, Nat.reduceMul, Int.reduceLT, Int.reduceLE, Int.reduceToNat, Int.reduceNeg, Int.reduceEq, Int.reduceAdd, Int.reduceSub, Int.reduceMul, reduceCtorEq]
  refine callF.plain ?_
  refine ACall.eq_args (l' := [.ptr σ.n 0 0, sl ratRow d]) (by simp -implicitDefEqProofs (disch := (first | omega | (simp only [go_sem] <;> omega) | fail)) only [go_sem, Nat.reduceEqDiff, ↓reduceIte, Nat.reduceAdd, Nat.reduceLT, Nat.reduceLeDiff, Nat.reduceSub, Nat.reduceMul, Int.reduceLT, Int.reduceLE, Int.reduceToNat, Int.reduceNeg, Int.reduceEq, Int.reduceAdd, Int.reduceSub, Int.reduceMul, reduceCtorEq]) ?_
  refine displacements_ok v d hs hd σ.n _ _ (by first | omega | (simp -implicitDefEqProofs (disch := (first | omega | (simp only [go_sem] <;> omega) | fail)) only [go_sem, Nat.reduceEqDiff, ↓reduceIte, Nat.reduceAdd, Nat.reduceLT, Nat.reduceLeDiff, Nat.reduceSub, Nat.reduceMul, Int.reduceLT, Int.reduceLE, Int.reduceToNat, Int.reduceNeg, Int.reduceEq, Int.reduceAdd, Int.reduceSub, Int.reduceMul, reduceCtorEq]; omega)) (by simp -implicitDefEqProofs (disch := (first | omega | (simp only [go_sem] <;> omega) | fail)) only [go_sem, Nat.reduceEqDiff, ↓reduceIte, Nat.reduceAdd, Nat.reduceLT, Nat.reduceLeDiff, Nat.reduceSub, Nat.reduceMul, Int.reduceLT, Int.reduceLE, Int.reduceToNat, Int.reduceNeg, Int.reduceEq, Int.reduceAdd, Int.reduceSub, Int.reduceMul, reduceCtorEq]; rfl) _ (fun hm => ?_) (fun hm L hL1 hL2 => ?_)
  · rw [hm] at h
    simp -implicitDefEqProofs (disch := (first | omega | (simp only [go_sem] <;> omega) | fail)) only [go_sem, Nat.reduceEqDiff, ↓reduceIte, Nat.reduceAdd, Nat.reduceLT, Nat.reduceLeDiff, Nat.reduceSub, Nat.reduceMul, Int.reduceLT, Int.reduceLE, Int.reduceToNat, Int.reduceNeg, Int.reduceEq, Int.reduceAdd, Int.reduceSub, Int.reduceMul, reduceCtorEq]
    exact h
  have hL : IsDisp v d L := ⟨hL1, hL2⟩
  rw [hm] at h
  obtain ⟨F, hdl, hv⟩ := movesB_facts hm
  have hnm := F.nm
  have hnj := F.nj
  simp -implicitDefEqProofs (disch := (first | omega | (simp only [go_sem] <;> omega) | fail)) only [go_sem, Nat.reduceEqDiff, ↓reduceIte, Nat.reduceAdd, Nat.reduceLT, Nat.reduceLeDiff, Nat.reduceSub, Nat.reduceMul, Int.reduceLT, Int.reduceLE, Int.reduceToNat, Int.reduceNeg, Int.reduceEq, Int.reduceAdd, Int.reduceSub, Int.reduceMul, reduceCtorEq]
  refine callF.plain ?_
  refine ACall.eq_args (l' := [.ptr σ.n 0 0, ints l]) (by simp -implicitDefEqProofs (disch := (first | omega | (simp only [go_sem] <;> omega) | fail)) only [go_sem, Nat.reduceEqDiff, ↓reduceIte, Nat.reduceAdd, Nat.reduceLT, Nat.reduceLeDiff, Nat.reduceSub, Nat.reduceMul, Int.reduceLT, Int.reduceLE, Int.reduceToNat, Int.reduceNeg, Int.reduceEq, Int.reduceAdd, Int.reduceSub, Int.reduceMul, reduceCtorEq]) ?_
  refine fitsLoad_ok v l (by omega) hl σ.n _ _ (by first | omega | (simp -implicitDefEqProofs (disch := (first | omega | (simp only [go_sem] <;> omega) | fail)) only [go_sem, Nat.reduceEqDiff, ↓reduceIte, Nat.reduceAdd, Nat.reduceLT, Nat.reduceLeDiff, Nat.reduceSub, Nat.reduceMul, Int.reduceLT, Int.reduceLE, Int.reduceToNat, Int.reduceNeg, Int.reduceEq, Int.reduceAdd, Int.reduceSub, Int.reduceMul, reduceCtorEq]; omega)) (by simp -implicitDefEqProofs (disch := (first | omega | (simp only [go_sem] <;> omega) | fail)) only [go_sem, Nat.reduceEqDiff, ↓reduceIte, Nat.reduceAdd, Nat.reduceLT, Nat.reduceLeDiff, Nat.reduceSub, Nat.reduceMul, Int.reduceLT, Int.reduceLE, Int.reduceToNat, Int.reduceNeg, Int.reduceEq, Int.reduceAdd, Int.reduceSub, Int.reduceMul, reduceCtorEq]; rfl) _ ?_
  cases hlo : loadOkB v l with
  | false =>
    rw [hlo] at h
    simp -implicitDefEqProofs (disch := (first | omega | (simp only [go_sem] <;> omega) | fail)) only [go_sem, Nat.reduceEqDiff, ↓reduceIte, Nat.reduceAdd, Nat.reduceLT, Nat.reduceLeDiff, Nat.reduceSub, Nat.reduceMul, Int.reduceLT, Int.reduceLE, Int.reduceToNat, Int.reduceNeg, Int.reduceEq, Int.reduceAdd, Int.reduceSub, Int.reduceMul, reduceCtorEq]
    exact h
  | true =>
    rw [hlo] at h
    obtain ⟨hll, hlb⟩ := loadOkB_facts hlo
    simp -implicitDefEqProofs (disch := (first | omega | (simp only [go_sem] <;> omega) | fail)) only [go_sem, Nat.reduceEqDiff, ↓reduceIte, Nat.reduceAdd, Nat.reduceLT, Nat.reduceLeDiff, Nat.reduceSub, Nat.reduceMul, Int.reduceLT, Int.reduceLE, Int.reduceToNat, Int.reduceNeg, Int.reduceEq, Int.reduceAdd, Int.reduceSub, Int.reduceMul, reduceCtorEq]
    refine Sat.loopW (fun (t : Nat) e' σ' => ∃ i, t = v.members.length - i ∧ i ≤ v.members.length ∧ e' 1 = ints l ∧ e' 3 = .ptr σ.n 0 0 ∧ e' 7 = sl frRow L ∧ e' 28 = sl memRow v.members ∧ e' 29 = .lit (.int .i64 v.members.length) ∧ e' 30 = .lit (.int .i64 (i : Nat)) ∧
      σ'.h σ.n = .deep 2 (structRows v) ∧ σ.n < σ'.n ∧ Old σ σ' ∧ (∀ j, j < i → refAt v d j = true)) (fun t => t) v.members.length rfl ?_ ?_
    · simp -implicitDefEqProofs (disch := (first | omega | (simp only [go_sem] <;> omega) | fail)) only [go_sem, Nat.reduceEqDiff, ↓reduceIte, Nat.reduceAdd, Nat.reduceLT, Nat.reduceLeDiff, Nat.reduceSub, Nat.reduceMul, Int.reduceLT, Int.reduceLE, Int.reduceToNat, Int.reduceNeg, Int.reduceEq, Int.reduceAdd, Int.reduceSub, Int.reduceMul, reduceCtorEq]
      exact ⟨0, by omega, by omega, rfl, rfl, by omega, by omega⟩
    rintro t e1 σ1 ⟨i, rfl, hi, h1, h3, h7, h28, h29, h30, hB, hn, hO, hA⟩
    by_cases hlt : i < v.members.length
    · have hlt' : (i : Int) < v.members.length := by omega
      obtain ⟨m, hme⟩ : ∃ m, v.members.getD i default = m := ⟨_, rfl⟩
      have hka : kindAt v i = m.kind := by unfold kindAt; rw [hme]
      simp -implicitDefEqProofs (disch := (first | omega | (simp only [go_sem] <;> omega) | fail)) only [go_sem, Nat.reduceEqDiff, ↓reduceIte, Nat.reduceAdd, Nat.reduceLT, Nat.reduceLeDiff, Nat.reduceSub, Nat.reduceMul, Int.reduceLT, Int.reduceLE, Int.reduceToNat, Int.reduceNeg, Int.reduceEq, Int.reduceAdd, Int.reduceSub, Int.reduceMul, reduceCtorEq, h1, h3, h7, h28, h29, h30, hlt', hme, memRow_eq]
      refine callF.plain ?_
      refine ACall.eq_args (l' := [.ptr σ.n 0 0, .lit (.int .i64 (i : Nat)), sl frRow L]) (by simp -implicitDefEqProofs (disch := (first | omega | (simp only [go_sem] <;> omega) | fail)) only [go_sem, Nat.reduceEqDiff, ↓reduceIte, Nat.reduceAdd, Nat.reduceLT, Nat.reduceLeDiff, Nat.reduceSub, Nat.reduceMul, Int.reduceLT, Int.reduceLE, Int.reduceToNat, Int.reduceNeg, Int.reduceEq, Int.reduceAdd, Int.reduceSub, Int.reduceMul, reduceCtorEq, h3]) ?_
      refine stretch_ok v F d L hL i hlt σ.n _ _ (by first | omega | (simp -implicitDefEqProofs (disch := (first | omega | (simp only [go_sem] <;> omega) | fail)) only [go_sem, Nat.reduceEqDiff, ↓reduceIte, Nat.reduceAdd, Nat.reduceLT, Nat.reduceLeDiff, Nat.reduceSub, Nat.reduceMul, Int.reduceLT, Int.reduceLE, Int.reduceToNat, Int.reduceNeg, Int.reduceEq, Int.reduceAdd, Int.reduceSub, Int.reduceMul, reduceCtorEq]; omega)) (by first | exact hB | simp -implicitDefEqProofs (disch := (first | omega | (simp only [go_sem] <;> omega) | fail)) only [go_sem, Nat.reduceEqDiff, ↓reduceIte, Nat.reduceAdd, Nat.reduceLT, Nat.reduceLeDiff, Nat.reduceSub, Nat.reduceMul, Int.reduceLT, Int.reduceLE, Int.reduceToNat, Int.reduceNeg, Int.reduceEq, Int.reduceAdd, Int.reduceSub, Int.reduceMul, reduceCtorEq, hB]) _ ?_
      obtain ⟨x, hx⟩ : ∃ x, stretchF v d i = x := ⟨_, rfl⟩
      have hat : refAt v d i = (x.isSome && !((decide (m.kind ≠ 2) && decide (0 < sgnF x)) || (decide (m.kind ≠ 1) && decide (sgnF x < 0)))) := by
        unfold refAt; rw [hx, hka]
      rw [hx]
      clear hx
      match x with
      | none =>
        simp only [frA]
        simp -implicitDefEqProofs (disch := (first | omega | (simp only [go_sem] <;> omega) | fail)) only [go_sem, Nat.reduceEqDiff, ↓reduceIte, Nat.reduceAdd, Nat.reduceLT, Nat.reduceLeDiff, Nat.reduceSub, Nat.reduceMul, Int.reduceLT, Int.reduceLE, Int.reduceToNat, Int.reduceNeg, Int.reduceEq, Int.reduceAdd, Int.reduceSub, Int.reduceMul, reduceCtorEq]
        have hbad : refAt v d i = false := by
          rw [hat]; simp
        rw [range_all_false hlt hbad] at h
        simp -implicitDefEqProofs (disch := (first | omega | (simp only [go_sem] <;> omega) | fail)) only [go_sem, Nat.reduceEqDiff, ↓reduceIte, Nat.reduceAdd, Nat.reduceLT, Nat.reduceLeDiff, Nat.reduceSub, Nat.reduceMul, Int.reduceLT, Int.reduceLE, Int.reduceToNat, Int.reduceNeg, Int.reduceEq, Int.reduceAdd, Int.reduceSub, Int.reduceMul, reduceCtorEq, hO]
        exact h
      | some (n, dd) =>
        have hsf : sgnF (some (n, dd)) = sgnZ n := rfl
        rw [hsf] at hat
        simp only [frA, ratP]
        by_cases k2 : m.kind = 2
        · have k1 : ¬ m.kind = 1 := by omega
          simp -implicitDefEqProofs (disch := (first | omega | (simp only [go_sem] <;> omega) | fail)) only [go_sem, Nat.reduceEqDiff, ↓reduceIte, Nat.reduceAdd, Nat.reduceLT, Nat.reduceLeDiff, Nat.reduceSub, Nat.reduceMul, Int.reduceLT, Int.reduceLE, Int.reduceToNat, Int.reduceNeg, Int.reduceEq, Int.reduceAdd, Int.reduceSub, Int.reduceMul, reduceCtorEq, k2, k1]
          refine callF.plain (ratSign_ok n dd _ _ _ ?_)
          by_cases s1 : sgnZ n < 0
          · skip
            have hbad : refAt v d i = false := by
              rw [hat]; simp [k2, k1, s1]
            rw [range_all_false hlt hbad] at h
            simp -implicitDefEqProofs (disch := (first | omega | (simp only [go_sem] <;> omega) | fail)) only [go_sem, Nat.reduceEqDiff, ↓reduceIte, Nat.reduceAdd, Nat.reduceLT, Nat.reduceLeDiff, Nat.reduceSub, Nat.reduceMul, Int.reduceLT, Int.reduceLE, Int.reduceToNat, Int.reduceNeg, Int.reduceEq, Int.reduceAdd, Int.reduceSub, Int.reduceMul, reduceCtorEq, k2, k1, s1, hO]
            exact h
          · skip
            have hgood : refAt v d i = true := by
              rw [hat]; simp [k2, k1, s1]
            simp -implicitDefEqProofs (disch := (first | omega | (simp only [go_sem] <;> omega) | fail)) only [go_sem, Nat.reduceEqDiff, ↓reduceIte, Nat.reduceAdd, Nat.reduceLT, Nat.reduceLeDiff, Nat.reduceSub, Nat.reduceMul, Int.reduceLT, Int.reduceLE, Int.reduceToNat, Int.reduceNeg, Int.reduceEq, Int.reduceAdd, Int.reduceSub, Int.reduceMul, reduceCtorEq, k2, k1, s1, h1, h3, h7, h28, h29, h30, wrap_i64]
            refine ⟨v.members.length - (i + 1), by omega, i + 1, rfl, by omega, rfl, by simp -implicitDefEqProofs (disch := (first | omega | (simp only [go_sem] <;> omega) | fail)) only [go_sem, Nat.reduceEqDiff, ↓reduceIte, Nat.reduceAdd, Nat.reduceLT, Nat.reduceLeDiff, Nat.reduceSub, Nat.reduceMul, Int.reduceLT, Int.reduceLE, Int.reduceToNat, Int.reduceNeg, Int.reduceEq, Int.reduceAdd, Int.reduceSub, Int.reduceMul, reduceCtorEq, hB], by omega, by simp -implicitDefEqProofs (disch := (first | omega | (simp only [go_sem] <;> omega) | fail)) only [go_sem, Nat.reduceEqDiff, ↓reduceIte, Nat.reduceAdd, Nat.reduceLT, Nat.reduceLeDiff, Nat.reduceSub, Nat.reduceMul, Int.reduceLT, Int.reduceLE, Int.reduceToNat, Int.reduceNeg, Int.reduceEq, Int.reduceAdd, Int.reduceSub, Int.reduceMul, reduceCtorEq, hO], fun j hj => ?_⟩
            by_cases hji : j = i
            · rw [hji]; exact hgood
            · exact hA j (by omega)
        · simp -implicitDefEqProofs (disch := (first | omega | (simp only [go_sem] <;> omega) | fail)) only [go_sem, Nat.reduceEqDiff, ↓reduceIte, Nat.reduceAdd, Nat.reduceLT, Nat.reduceLeDiff, Nat.reduceSub, Nat.reduceMul, Int.reduceLT, Int.reduceLE, Int.reduceToNat, Int.reduceNeg, Int.reduceEq, Int.reduceAdd, Int.reduceSub, Int.reduceMul, reduceCtorEq, k2]
          refine callF.plain (ratSign_ok n dd _ _ _ ?_)
          by_cases s2 : 0 < sgnZ n
          · skip
            have hbad : refAt v d i = false := by
              rw [hat]; simp [k2, s2]
            rw [range_all_false hlt hbad] at h
            simp -implicitDefEqProofs (disch := (first | omega | (simp only [go_sem] <;> omega) | fail)) only [go_sem, Nat.reduceEqDiff, ↓reduceIte, Nat.reduceAdd, Nat.reduceLT, Nat.reduceLeDiff, Nat.reduceSub, Nat.reduceMul, Int.reduceLT, Int.reduceLE, Int.reduceToNat, Int.reduceNeg, Int.reduceEq, Int.reduceAdd, Int.reduceSub, Int.reduceMul, reduceCtorEq, k2, s2, hO]
            exact h
          · simp -implicitDefEqProofs (disch := (first | omega | (simp only [go_sem] <;> omega) | fail)) only [go_sem, Nat.reduceEqDiff, ↓reduceIte, Nat.reduceAdd, Nat.reduceLT, Nat.reduceLeDiff, Nat.reduceSub, Nat.reduceMul, Int.reduceLT, Int.reduceLE, Int.reduceToNat, Int.reduceNeg, Int.reduceEq, Int.reduceAdd, Int.reduceSub, Int.reduceMul, reduceCtorEq, k2, s2]
            by_cases k1 : m.kind = 1
            · skip
              have hgood : refAt v d i = true := by
                rw [hat]; simp [k1, k2, s2]
              simp -implicitDefEqProofs (disch := (first | omega | (simp only [go_sem] <;> omega) | fail)) only [go_sem, Nat.reduceEqDiff, ↓reduceIte, Nat.reduceAdd, Nat.reduceLT, Nat.reduceLeDiff, Nat.reduceSub, Nat.reduceMul, Int.reduceLT, Int.reduceLE, Int.reduceToNat, Int.reduceNeg, Int.reduceEq, Int.reduceAdd, Int.reduceSub, Int.reduceMul, reduceCtorEq, k1, k2, s2, h1, h3, h7, h28, h29, h30, wrap_i64]
              refine ⟨v.members.length - (i + 1), by omega, i + 1, rfl, by omega, rfl, by simp -implicitDefEqProofs (disch := (first | omega | (simp only [go_sem] <;> omega) | fail)) only [go_sem, Nat.reduceEqDiff, ↓reduceIte, Nat.reduceAdd, Nat.reduceLT, Nat.reduceLeDiff, Nat.reduceSub, Nat.reduceMul, Int.reduceLT, Int.reduceLE, Int.reduceToNat, Int.reduceNeg, Int.reduceEq, Int.reduceAdd, Int.reduceSub, Int.reduceMul, reduceCtorEq, hB], by omega, by simp -implicitDefEqProofs (disch := (first | omega | (simp only [go_sem] <;> omega) | fail)) only [go_sem, Nat.reduceEqDiff, ↓reduceIte, Nat.reduceAdd, Nat.reduceLT, Nat.reduceLeDiff, Nat.reduceSub, Nat.reduceMul, Int.reduceLT, Int.reduceLE, Int.reduceToNat, Int.reduceNeg, Int.reduceEq, Int.reduceAdd, Int.reduceSub, Int.reduceMul, reduceCtorEq, hO], fun j hj => ?_⟩
              by_cases hji : j = i
              · rw [hji]; exact hgood
              · exact hA j (by omega)
            · simp -implicitDefEqProofs (disch := (first | omega | (simp only [go_sem] <;> omega) | fail)) only [go_sem, Nat.reduceEqDiff, ↓reduceIte, Nat.reduceAdd, Nat.reduceLT, Nat.reduceLeDiff, Nat.reduceSub, Nat.reduceMul, Int.reduceLT, Int.reduceLE, Int.reduceToNat, Int.reduceNeg, Int.reduceEq, Int.reduceAdd, Int.reduceSub, Int.reduceMul, reduceCtorEq, k1]
              refine callF.plain (ratSign_ok n dd _ _ _ ?_)
              by_cases s1 : sgnZ n < 0
              · skip
                have hbad : refAt v d i = false := by
                  rw [hat]; simp [k2, k1, s2, s1]
                rw [range_all_false hlt hbad] at h
                simp -implicitDefEqProofs (disch := (first | omega | (simp only [go_sem] <;> omega) | fail)) only [go_sem, Nat.reduceEqDiff, ↓reduceIte, Nat.reduceAdd, Nat.reduceLT, Nat.reduceLeDiff, Nat.reduceSub, Nat.reduceMul, Int.reduceLT, Int.reduceLE, Int.reduceToNat, Int.reduceNeg, Int.reduceEq, Int.reduceAdd, Int.reduceSub, Int.reduceMul, reduceCtorEq, k2, k1, s2, s1, hO]
                exact h
              · skip
                have hgood : refAt v d i = true := by
                  rw [hat]; simp [k2, k1, s2, s1]
                simp -implicitDefEqProofs (disch := (first | omega | (simp only [go_sem] <;> omega) | fail)) only [go_sem, Nat.reduceEqDiff, ↓reduceIte, Nat.reduceAdd, Nat.reduceLT, Nat.reduceLeDiff, Nat.reduceSub, Nat.reduceMul, Int.reduceLT, Int.reduceLE, Int.reduceToNat, Int.reduceNeg, Int.reduceEq, Int.reduceAdd, Int.reduceSub, Int.reduceMul, reduceCtorEq, k2, k1, s2, s1, h1, h3, h7, h28, h29, h30, wrap_i64]
                refine ⟨v.members.length - (i + 1), by omega, i + 1, rfl, by omega, rfl, by simp -implicitDefEqProofs (disch := (first | omega | (simp only [go_sem] <;> omega) | fail)) only [go_sem, Nat.reduceEqDiff, ↓reduceIte, Nat.reduceAdd, Nat.reduceLT, Nat.reduceLeDiff, Nat.reduceSub, Nat.reduceMul, Int.reduceLT, Int.reduceLE, Int.reduceToNat, Int.reduceNeg, Int.reduceEq, Int.reduceAdd, Int.reduceSub, Int.reduceMul, reduceCtorEq, hB], by omega, by simp -implicitDefEqProofs (disch := (first | omega | (simp only [go_sem] <;> omega) | fail)) only [go_sem, Nat.reduceEqDiff, ↓reduceIte, Nat.reduceAdd, Nat.reduceLT, Nat.reduceLeDiff, Nat.reduceSub, Nat.reduceMul, Int.reduceLT, Int.reduceLE, Int.reduceToNat, Int.reduceNeg, Int.reduceEq, Int.reduceAdd, Int.reduceSub, Int.reduceMul, reduceCtorEq, hO], fun j hj => ?_⟩
                by_cases hji : j = i
                · rw [hji]; exact hgood
                · exact hA j (by omega)
    · have hlt' : ¬ (i : Int) < v.members.length := by omega
      have hall := range_all_true (n := v.members.length) (p := refAt v d) (fun j hj => hA j (by omega))
      rw [hall] at h
      clear hA
      have hfl := freeN_len v
      have hfz : (freeZ v).length = (freeN v).length := by simp [freeZ]
      simp -implicitDefEqProofs (disch := (first | omega | (simp only [go_sem] <;> omega) | fail)) only [go_sem, Nat.reduceEqDiff, ↓reduceIte, Nat.reduceAdd, Nat.reduceLT, Nat.reduceLeDiff, Nat.reduceSub, Nat.reduceMul, Int.reduceLT, Int.reduceLE, Int.reduceToNat, Int.reduceNeg, Int.reduceEq, Int.reduceAdd, Int.reduceSub, Int.reduceMul, reduceCtorEq, h1, h3, h7, h28, h29, h30, hlt']
      refine callF.plain (whole_ok 0 (by omega) (by omega) _ _ _ ?_)
      simp -implicitDefEqProofs (disch := (first | omega | (simp only [go_sem] <;> omega) | fail)) only [go_sem, Nat.reduceEqDiff, ↓reduceIte, Nat.reduceAdd, Nat.reduceLT, Nat.reduceLeDiff, Nat.reduceSub, Nat.reduceMul, Int.reduceLT, Int.reduceLE, Int.reduceToNat, Int.reduceNeg, Int.reduceEq, Int.reduceAdd, Int.reduceSub, Int.reduceMul, reduceCtorEq, h1, h3, h7]
      refine callF.plain ?_
      refine ACall.eq_args (l' := [.ptr σ.n 0 0]) (by simp -implicitDefEqProofs (disch := (first | omega | (simp only [go_sem] <;> omega) | fail)) only [go_sem, Nat.reduceEqDiff, ↓reduceIte, Nat.reduceAdd, Nat.reduceLT, Nat.reduceLeDiff, Nat.reduceSub, Nat.reduceMul, Int.reduceLT, Int.reduceLE, Int.reduceToNat, Int.reduceNeg, Int.reduceEq, Int.reduceAdd, Int.reduceSub, Int.reduceMul, reduceCtorEq, h3]) ?_
      refine free_ok v σ.n hjn _ _ (by first | omega | (simp -implicitDefEqProofs (disch := (first | omega | (simp only [go_sem] <;> omega) | fail)) only [go_sem, Nat.reduceEqDiff, ↓reduceIte, Nat.reduceAdd, Nat.reduceLT, Nat.reduceLeDiff, Nat.reduceSub, Nat.reduceMul, Int.reduceLT, Int.reduceLE, Int.reduceToNat, Int.reduceNeg, Int.reduceEq, Int.reduceAdd, Int.reduceSub, Int.reduceMul, reduceCtorEq]; omega)) (by first | exact hB | simp -implicitDefEqProofs (disch := (first | omega | (simp only [go_sem] <;> omega) | fail)) only [go_sem, Nat.reduceEqDiff, ↓reduceIte, Nat.reduceAdd, Nat.reduceLT, Nat.reduceLeDiff, Nat.reduceSub, Nat.reduceMul, Int.reduceLT, Int.reduceLE, Int.reduceToNat, Int.reduceNeg, Int.reduceEq, Int.reduceAdd, Int.reduceSub, Int.reduceMul, reduceCtorEq, hB]) _ ?_
      simp -implicitDefEqProofs (disch := (first | omega | (simp only [go_sem] <;> omega) | fail)) only [go_sem, Nat.reduceEqDiff, ↓reduceIte, Nat.reduceAdd, Nat.reduceLT, Nat.reduceLeDiff, Nat.reduceSub, Nat.reduceMul, Int.reduceLT, Int.reduceLE, Int.reduceToNat, Int.reduceNeg, Int.reduceEq, Int.reduceAdd, Int.reduceSub, Int.reduceMul, reduceCtorEq, hfz]
      refine Sat.loopW (fun (t : Nat) e' σ' => ∃ i, t = (freeN v).length - i ∧ i ≤ (freeN v).length ∧ e' 1 = ints l ∧ e' 7 = sl frRow L ∧ e' 12 = frA (workTo v l d i) ∧ e' 62 = ints (freeZ v) ∧ e' 63 = .lit (.int .i64 (freeN v).length) ∧ e' 64 = .lit (.int .i64 (i : Nat)) ∧ Old σ σ') (fun t => t) (freeN v).length rfl ?_ ?_
      · simp -implicitDefEqProofs (disch := (first | omega | (simp only [go_sem] <;> omega) | fail)) only [go_sem, Nat.reduceEqDiff, ↓reduceIte, Nat.reduceAdd, Nat.reduceLT, Nat.reduceLeDiff, Nat.reduceSub, Nat.reduceMul, Int.reduceLT, Int.reduceLE, Int.reduceToNat, Int.reduceNeg, Int.reduceEq, Int.reduceAdd, Int.reduceSub, Int.reduceMul, reduceCtorEq, h1, h7, hfz]
        exact ⟨0, by omega, by omega, rfl, rfl, by simp -implicitDefEqProofs (disch := (first | omega | (simp only [go_sem] <;> omega) | fail)) only [go_sem, Nat.reduceEqDiff, ↓reduceIte, Nat.reduceAdd, Nat.reduceLT, Nat.reduceLeDiff, Nat.reduceSub, Nat.reduceMul, Int.reduceLT, Int.reduceLE, Int.reduceToNat, Int.reduceNeg, Int.reduceEq, Int.reduceAdd, Int.reduceSub, Int.reduceMul, reduceCtorEq, hO]⟩
      clear hi hlt hlt' h28 h29 h30 h3 h1 h7 hB hn hO
      rintro t e2 σ2 ⟨i, rfl, hi, h1, h7, h12, h62, h63, h64, hO⟩
      by_cases hlt : i < (freeN v).length
      · have hlt' : (i : Int) < (freeN v).length := by omega
        have hlz : (i : Int) < (freeZ v).length := by omega
        obtain ⟨hgz, hjl, hjf, hjd⟩ := freeAt_facts hlt
        obtain ⟨w, hw⟩ : ∃ w, workTo v l d i = w := ⟨_, rfl⟩
        have hwo := workTo_ok hlo d i
        have hws : workTo v l d (i + 1) = addF (addF w (workX v l d (freeAt v i))) (workY v l d (freeAt v i)) := by rw [← hw]; rfl
        rw [hw] at h12 hwo
        obtain ⟨j, hj⟩ : ∃ j, freeAt v i = j := ⟨_, rfl⟩
        rw [hj] at hgz hjl hws
        obtain ⟨g1, g2⟩ := hL.2 j hjl
        have i1 : (2 * (j : Int)).toNat = 2 * j := by omega
        have i2 : (2 * (j : Int) + 1).toNat = 2 * j + 1 := by omega
        have hb1 := hlb (2 * j)
        have hb2 := hlb (2 * j + 1)
        simp -implicitDefEqProofs (disch := (first | omega | (simp only [go_sem] <;> omega) | fail)) only [go_sem, Nat.reduceEqDiff, ↓reduceIte, Nat.reduceAdd, Nat.reduceLT, Nat.reduceLeDiff, Nat.reduceSub, Nat.reduceMul, Int.reduceLT, Int.reduceLE, Int.reduceToNat, Int.reduceNeg, Int.reduceEq, Int.reduceAdd, Int.reduceSub, Int.reduceMul, reduceCtorEq, h1, h7, h12, h62, h63, h64, hlt', hlz, getD_int, hgz]
        refine Sat.drawn0 [] mixed (by kernel_rfl) ?_
        simp -implicitDefEqProofs (disch := (first | omega | (simp only [go_sem] <;> omega) | fail)) only [go_sem, Nat.reduceEqDiff, ↓reduceIte, Nat.reduceAdd, Nat.reduceLT, Nat.reduceLeDiff, Nat.reduceSub, Nat.reduceMul, Int.reduceLT, Int.reduceLE, Int.reduceToNat, Int.reduceNeg, Int.reduceEq, Int.reduceAdd, Int.reduceSub, Int.reduceMul, reduceCtorEq, h1, h7, h12, i1, wrap_i64, getD_int, frRow_eq, g1]
        refine exQ.intro (whole_ok (l.getD (2 * j) 0) (by omega) (by omega) _ _ _ ⟨rfl, rfl⟩) ?_
        try simp -implicitDefEqProofs (disch := (first | omega | (simp only [go_sem] <;> omega) | fail)) only [go_sem, Nat.reduceEqDiff, ↓reduceIte, Nat.reduceAdd, Nat.reduceLT, Nat.reduceLeDiff, Nat.reduceSub, Nat.reduceMul, Int.reduceLT, Int.reduceLE, Int.reduceToNat, Int.reduceNeg, Int.reduceEq, Int.reduceAdd, Int.reduceSub, Int.reduceMul, reduceCtorEq]
        refine exQ.intro (mul_ok (wholeF (l.getD (2 * j) 0)) (dispX v d j) (whole_small (by omega)) (dispX_ok _ _ _) _ _ _ ⟨rfl, rfl⟩) ?_
        have hwx : mulF (wholeF (l.getD (2 * j) 0)) (dispX v d j) = workX v l d j := rfl
        rw [hwx]
        try simp -implicitDefEqProofs (disch := (first | omega | (simp only [go_sem] <;> omega) | fail)) only [go_sem, Nat.reduceEqDiff, ↓reduceIte, Nat.reduceAdd, Nat.reduceLT, Nat.reduceLeDiff, Nat.reduceSub, Nat.reduceMul, Int.reduceLT, Int.reduceLE, Int.reduceToNat, Int.reduceNeg, Int.reduceEq, Int.reduceAdd, Int.reduceSub, Int.reduceMul, reduceCtorEq]
        refine exQ.intro (add_ok w (workX v l d j) hwo (workX_ok hlo d j) _ _ _ ⟨rfl, rfl⟩) ?_
        try simp -implicitDefEqProofs (disch := (first | omega | (simp only [go_sem] <;> omega) | fail)) only [go_sem, Nat.reduceEqDiff, ↓reduceIte, Nat.reduceAdd, Nat.reduceLT, Nat.reduceLeDiff, Nat.reduceSub, Nat.reduceMul, Int.reduceLT, Int.reduceLE, Int.reduceToNat, Int.reduceNeg, Int.reduceEq, Int.reduceAdd, Int.reduceSub, Int.reduceMul, reduceCtorEq, h1, h7]
        refine Sat.drawn0 [] mixed (by kernel_rfl) ?_
        simp -implicitDefEqProofs (disch := (first | omega | (simp only [go_sem] <;> omega) | fail)) only [go_sem, Nat.reduceEqDiff, ↓reduceIte, Nat.reduceAdd, Nat.reduceLT, Nat.reduceLeDiff, Nat.reduceSub, Nat.reduceMul, Int.reduceLT, Int.reduceLE, Int.reduceToNat, Int.reduceNeg, Int.reduceEq, Int.reduceAdd, Int.reduceSub, Int.reduceMul, reduceCtorEq, h1, h7, i2, wrap_i64, getD_int, frRow_eq, g2]
        refine exQ.intro (whole_ok (l.getD (2 * j + 1) 0) (by omega) (by omega) _ _ _ ⟨rfl, rfl⟩) ?_
        try simp -implicitDefEqProofs (disch := (first | omega | (simp only [go_sem] <;> omega) | fail)) only [go_sem, Nat.reduceEqDiff, ↓reduceIte, Nat.reduceAdd, Nat.reduceLT, Nat.reduceLeDiff, Nat.reduceSub, Nat.reduceMul, Int.reduceLT, Int.reduceLE, Int.reduceToNat, Int.reduceNeg, Int.reduceEq, Int.reduceAdd, Int.reduceSub, Int.reduceMul, reduceCtorEq]
        refine exQ.intro (mul_ok (wholeF (l.getD (2 * j + 1) 0)) (dispY v d j) (whole_small (by omega)) (dispY_ok _ _ _) _ _ _ ⟨rfl, rfl⟩) ?_
        have hwy : mulF (wholeF (l.getD (2 * j + 1) 0)) (dispY v d j) = workY v l d j := rfl
        rw [hwy]
        try simp -implicitDefEqProofs (disch := (first | omega | (simp only [go_sem] <;> omega) | fail)) only [go_sem, Nat.reduceEqDiff, ↓reduceIte, Nat.reduceAdd, Nat.reduceLT, Nat.reduceLeDiff, Nat.reduceSub, Nat.reduceMul, Int.reduceLT, Int.reduceLE, Int.reduceToNat, Int.reduceNeg, Int.reduceEq, Int.reduceAdd, Int.reduceSub, Int.reduceMul, reduceCtorEq]
        refine exQ.intro (add_ok _ (workY v l d j) (addF_ok hwo (workX_ok hlo d j)) (workY_ok hlo d j) _ _ _ ⟨rfl, rfl⟩) ?_
        simp -implicitDefEqProofs (disch := (first | omega | (simp only [go_sem] <;> omega) | fail)) only [go_sem, Nat.reduceEqDiff, ↓reduceIte, Nat.reduceAdd, Nat.reduceLT, Nat.reduceLeDiff, Nat.reduceSub, Nat.reduceMul, Int.reduceLT, Int.reduceLE, Int.reduceToNat, Int.reduceNeg, Int.reduceEq, Int.reduceAdd, Int.reduceSub, Int.reduceMul, reduceCtorEq, h1, h7, h62, h63, h64, wrap_i64]
        exact ⟨(freeN v).length - (i + 1), by omega, i + 1, rfl, by omega, by rw [hws], rfl, by simp -implicitDefEqProofs (disch := (first | omega | (simp only [go_sem] <;> omega) | fail)) only [go_sem, Nat.reduceEqDiff, ↓reduceIte, Nat.reduceAdd, Nat.reduceLT, Nat.reduceLeDiff, Nat.reduceSub, Nat.reduceMul, Int.reduceLT, Int.reduceLE, Int.reduceToNat, Int.reduceNeg, Int.reduceEq, Int.reduceAdd, Int.reduceSub, Int.reduceMul, reduceCtorEq, hO]⟩
      · have hlt' : ¬ (i : Int) < (freeN v).length := by omega
        have hie : i = (freeN v).length := by omega
        subst hie
        have hwf : workTo v l d (freeN v).length = workF v l d := rfl
        rw [hwf] at h12
        obtain ⟨x, hx⟩ : ∃ x, workF v l d = x := ⟨_, rfl⟩
        rw [hx] at h h12
        match x with
        | none =>
          simp only [frA] at h12
          simp -implicitDefEqProofs (disch := (first | omega | (simp only [go_sem] <;> omega) | fail)) only [go_sem, Nat.reduceEqDiff, ↓reduceIte, Nat.reduceAdd, Nat.reduceLT, Nat.reduceLeDiff, Nat.reduceSub, Nat.reduceMul, Int.reduceLT, Int.reduceLE, Int.reduceToNat, Int.reduceNeg, Int.reduceEq, Int.reduceAdd, Int.reduceSub, Int.reduceMul, reduceCtorEq, h1, h7, h12, h62, h63, h64, hlt', hO]
          exact h
        | some (n, dd) =>
          have hsf : sgnF (some (n, dd)) = sgnZ n := rfl
          rw [hsf] at h
          simp only [frA, ratP] at h12
          simp -implicitDefEqProofs (disch := (first | omega | (simp only [go_sem] <;> omega) | fail)) only [go_sem, Nat.reduceEqDiff, ↓reduceIte, Nat.reduceAdd, Nat.reduceLT, Nat.reduceLeDiff, Nat.reduceSub, Nat.reduceMul, Int.reduceLT, Int.reduceLE, Int.reduceToNat, Int.reduceNeg, Int.reduceEq, Int.reduceAdd, Int.reduceSub, Int.reduceMul, reduceCtorEq, h1, h7, h12, h62, h63, h64, hlt']
          refine callF.plain (ratSign_ok n dd _ _ _ ?_)
          simp -implicitDefEqProofs (disch := (first | omega | (simp only [go_sem] <;> omega) | fail)) only [go_sem, Nat.reduceEqDiff, ↓reduceIte, Nat.reduceAdd, Nat.reduceLT, Nat.reduceLeDiff, Nat.reduceSub, Nat.reduceMul, Int.reduceLT, Int.reduceLE, Int.reduceToNat, Int.reduceNeg, Int.reduceEq, Int.reduceAdd, Int.reduceSub, Int.reduceMul, reduceCtorEq, hO]
          exact h

set_option maxRecDepth 100000 in
set_option maxHeartbeats 1000000 in
theorem sisRefusal_ok (v : SV) (l : List Int) (d : List RV) (hs : ∀ j ∈ v.joints, j.name.size ≤ 1000000000) (hjn : v.joints.length ≤ 2000000) (hd : d.length ≤ 2000000) (hl : l.length ≤ 1000000000) (hsh : ∀ r ∈ d, r.short) (e : Env) (σ : St) (K : KT) (h : K (.lit (.bool (refB v l d))) e σ) :
    ACall Tryz.prog 27 [structV v, ints l, sl ratRow d] e σ K := by
  unfold structV
  unfold refB at h
  refine ACall.pureW Tryz.func27 rfl Tryz.ntmps27 Tryz.results27 rfl rfl rfl ?_
  simp -implicitDefEqProofs (disch := (first | omega | (simp only [go_sem] <;> omega) | fail)) only [go_sem, Nat.reduceEqDiff, ↓reduceIte, Nat.reduceAdd, Nat.reduceLT, Nat.reduceLeDiff, Nat.reduceSub, Nat.reduceMul, Int.reduceLT, Int.reduceLE, Int.reduceToNat, Int.reduceNeg, Int.reduceEq, Int.reduceAdd, Int.reduceSub, Int.reduceMul, reduceCtorEq]
  refine callF.plain (sloadOk_ok v l hs hjn hl _ _ _ ?_)
  cases hc1 : (structOkB v && loadOkB v l) with
  | false =>
    have hcz : (movesB v d && loadOkB v l) = false := by
      unfold movesB
      cases h1 : structOkB v with
      | false => rfl
      | true => rw [h1] at hc1; rw [Bool.true_and] at hc1; rw [hc1, Bool.and_false]
    rw [hcz] at h
    simp -implicitDefEqProofs (disch := (first | omega | (simp only [go_sem] <;> omega) | fail)) only [go_sem, Nat.reduceEqDiff, ↓reduceIte, Nat.reduceAdd, Nat.reduceLT, Nat.reduceLeDiff, Nat.reduceSub, Nat.reduceMul, Int.reduceLT, Int.reduceLE, Int.reduceToNat, Int.reduceNeg, Int.reduceEq, Int.reduceAdd, Int.reduceSub, Int.reduceMul, reduceCtorEq]
    exact h
  | true =>
    have hlo : loadOkB v l = true := by
      simp only [Bool.and_eq_true] at hc1; exact hc1.2
    simp -implicitDefEqProofs (disch := (first | omega | (simp only [go_sem] <;> omega) | fail)) only [go_sem, Nat.reduceEqDiff, ↓reduceIte, Nat.reduceAdd, Nat.reduceLT, Nat.reduceLeDiff, Nat.reduceSub, Nat.reduceMul, Int.reduceLT, Int.reduceLE, Int.reduceToNat, Int.reduceNeg, Int.reduceEq, Int.reduceAdd, Int.reduceSub, Int.reduceMul, reduceCtorEq]
    refine callF.plain (smoves_ok v d hs hjn hd hsh _ _ _ ?_)
    cases hm : movesB v d with
    | false =>
      rw [hm] at h
      simp -implicitDefEqProofs (disch := (first | omega | (simp only [go_sem] <;> omega) | fail)) only [go_sem, Nat.reduceEqDiff, ↓reduceIte, Nat.reduceAdd, Nat.reduceLT, Nat.reduceLeDiff, Nat.reduceSub, Nat.reduceMul, Int.reduceLT, Int.reduceLE, Int.reduceToNat, Int.reduceNeg, Int.reduceEq, Int.reduceAdd, Int.reduceSub, Int.reduceMul, reduceCtorEq]
      exact h
    | true =>
      rw [hm, hlo] at h
      obtain ⟨F, hdl, hv⟩ := movesB_facts hm
      have hnm := F.nm
      have hnj := F.nj
      simp -implicitDefEqProofs (disch := (first | omega | (simp only [go_sem] <;> omega) | fail)) only [go_sem, Nat.reduceEqDiff, ↓reduceIte, Nat.reduceAdd, Nat.reduceLT, Nat.reduceLeDiff, Nat.reduceSub, Nat.reduceMul, Int.reduceLT, Int.reduceLE, Int.reduceToNat, Int.reduceNeg, Int.reduceEq, Int.reduceAdd, Int.reduceSub, Int.reduceMul, reduceCtorEq]
      refine Sat.loopW (fun (t : Nat) e' σ' => ∃ i, t = v.members.length - i ∧ i ≤ v.members.length ∧ e' 1 = ints l ∧ e' 2 = sl ratRow d ∧ e' 3 = .ptr σ.n 0 0 ∧ e' 26 = sl memRow v.members ∧ e' 27 = .lit (.int .i64 v.members.length) ∧ e' 28 = .lit (.int .i64 (i : Nat)) ∧
        σ'.h σ.n = .deep 2 (structRows v) ∧ σ.n < σ'.n ∧ Old σ σ' ∧ (∀ j, j < i → refAt v d j = true)) (fun t => t) v.members.length rfl ?_ ?_
      · simp -implicitDefEqProofs (disch := (first | omega | (simp only [go_sem] <;> omega) | fail)) only [go_sem, Nat.reduceEqDiff, ↓reduceIte, Nat.reduceAdd, Nat.reduceLT, Nat.reduceLeDiff, Nat.reduceSub, Nat.reduceMul, Int.reduceLT, Int.reduceLE, Int.reduceToNat, Int.reduceNeg, Int.reduceEq, Int.reduceAdd, Int.reduceSub, Int.reduceMul, reduceCtorEq]
        exact ⟨0, by omega, by omega, rfl, rfl, by omega, by omega⟩
      rintro t e1 σ1 ⟨i, rfl, hi, h1, h2, h3, h26, h27, h28, hB, hn, hO, hA⟩
      have hB' := hB
      unfold structRows at hB'
      by_cases hlt : i < v.members.length
      · have hlt' : (i : Int) < v.members.length := by omega
        obtain ⟨m, hme⟩ : ∃ m, v.members.getD i default = m := ⟨_, rfl⟩
        have hka : kindAt v i = m.kind := by unfold kindAt; rw [hme]
        simp -implicitDefEqProofs (disch := (first | omega | (simp only [go_sem] <;> omega) | fail)) only [go_sem, Nat.reduceEqDiff, ↓reduceIte, Nat.reduceAdd, Nat.reduceLT, Nat.reduceLeDiff, Nat.reduceSub, Nat.reduceMul, Int.reduceLT, Int.reduceLE, Int.reduceToNat, Int.reduceNeg, Int.reduceEq, Int.reduceAdd, Int.reduceSub, Int.reduceMul, reduceCtorEq, h1, h2, h3, h26, h27, h28, hlt', hme, memRow_eq, hB']
        refine callF.plain (sstretch_ok v d (i : Int) hs hjn hd hsh _ _ _ ?_)
        unfold stretchV
        rw [if_pos ⟨hm, by omega, by omega⟩, Int.toNat_natCast]
        have hxo := stretchF_ok F d hlt
        obtain ⟨x, hx⟩ : ∃ x, stretchF v d i = x := ⟨_, rfl⟩
        have hat : refAt v d i = (x.isSome && !((decide (m.kind ≠ 2) && decide (0 < sgnF x)) || (decide (m.kind ≠ 1) && decide (sgnF x < 0)))) := by
          unfold refAt; rw [hx, hka]
        rw [hx] at hxo ⊢
        unfold ratV
        simp -implicitDefEqProofs (disch := (first | omega | (simp only [go_sem] <;> omega) | fail)) only [go_sem, Nat.reduceEqDiff, ↓reduceIte, Nat.reduceAdd, Nat.reduceLT, Nat.reduceLeDiff, Nat.reduceSub, Nat.reduceMul, Int.reduceLT, Int.reduceLE, Int.reduceToNat, Int.reduceNeg, Int.reduceEq, Int.reduceAdd, Int.reduceSub, Int.reduceMul, reduceCtorEq]
        refine callF.plain (sratSign_ok x hxo _ _ _ ?_)
        clear hx
        cases hqx : x.isSome with
        | false =>
          skip
          have hbad : refAt v d i = false := by
            rw [hat]; simp [hqx]
          rw [range_all_false hlt hbad] at h
          simp -implicitDefEqProofs (disch := (first | omega | (simp only [go_sem] <;> omega) | fail)) only [go_sem, Nat.reduceEqDiff, ↓reduceIte, Nat.reduceAdd, Nat.reduceLT, Nat.reduceLeDiff, Nat.reduceSub, Nat.reduceMul, Int.reduceLT, Int.reduceLE, Int.reduceToNat, Int.reduceNeg, Int.reduceEq, Int.reduceAdd, Int.reduceSub, Int.reduceMul, reduceCtorEq, hqx, hO]
          exact h
        | true =>
          by_cases k2 : m.kind = 2
          · have k1 : ¬ m.kind = 1 := by omega
            by_cases s1 : sgnF x < 0
            · skip
              have hbad : refAt v d i = false := by
                rw [hat]; simp [hqx, k2, k1, s1]
              rw [range_all_false hlt hbad] at h
              simp -implicitDefEqProofs (disch := (first | omega | (simp only [go_sem] <;> omega) | fail)) only [go_sem, Nat.reduceEqDiff, ↓reduceIte, Nat.reduceAdd, Nat.reduceLT, Nat.reduceLeDiff, Nat.reduceSub, Nat.reduceMul, Int.reduceLT, Int.reduceLE, Int.reduceToNat, Int.reduceNeg, Int.reduceEq, Int.reduceAdd, Int.reduceSub, Int.reduceMul, reduceCtorEq, hqx, k2, k1, s1, hO]
              exact h
            · skip
              have hgood : refAt v d i = true := by
                rw [hat]; simp [hqx, k2, k1, s1]
              simp -implicitDefEqProofs (disch := (first | omega | (simp only [go_sem] <;> omega) | fail)) only [go_sem, Nat.reduceEqDiff, ↓reduceIte, Nat.reduceAdd, Nat.reduceLT, Nat.reduceLeDiff, Nat.reduceSub, Nat.reduceMul, Int.reduceLT, Int.reduceLE, Int.reduceToNat, Int.reduceNeg, Int.reduceEq, Int.reduceAdd, Int.reduceSub, Int.reduceMul, reduceCtorEq, hqx, k2, k1, s1, h1, h2, h3, h26, h27, h28, wrap_i64]
              refine ⟨v.members.length - (i + 1), by omega, i + 1, rfl, by omega, rfl, by simp -implicitDefEqProofs (disch := (first | omega | (simp only [go_sem] <;> omega) | fail)) only [go_sem, Nat.reduceEqDiff, ↓reduceIte, Nat.reduceAdd, Nat.reduceLT, Nat.reduceLeDiff, Nat.reduceSub, Nat.reduceMul, Int.reduceLT, Int.reduceLE, Int.reduceToNat, Int.reduceNeg, Int.reduceEq, Int.reduceAdd, Int.reduceSub, Int.reduceMul, reduceCtorEq, hB], by omega, by simp -implicitDefEqProofs (disch := (first | omega | (simp only [go_sem] <;> omega) | fail)) only [go_sem, Nat.reduceEqDiff, ↓reduceIte, Nat.reduceAdd, Nat.reduceLT, Nat.reduceLeDiff, Nat.reduceSub, Nat.reduceMul, Int.reduceLT, Int.reduceLE, Int.reduceToNat, Int.reduceNeg, Int.reduceEq, Int.reduceAdd, Int.reduceSub, Int.reduceMul, reduceCtorEq, hO], fun j hj => ?_⟩
              by_cases hji : j = i
              · rw [hji]; exact hgood
              · exact hA j (by omega)
          · by_cases s2 : 0 < sgnF x
            · skip
              have hbad : refAt v d i = false := by
                rw [hat]; simp [hqx, k2, s2]
              rw [range_all_false hlt hbad] at h
              simp -implicitDefEqProofs (disch := (first | omega | (simp only [go_sem] <;> omega) | fail)) only [go_sem, Nat.reduceEqDiff, ↓reduceIte, Nat.reduceAdd, Nat.reduceLT, Nat.reduceLeDiff, Nat.reduceSub, Nat.reduceMul, Int.reduceLT, Int.reduceLE, Int.reduceToNat, Int.reduceNeg, Int.reduceEq, Int.reduceAdd, Int.reduceSub, Int.reduceMul, reduceCtorEq, hqx, k2, s2, hO]
              exact h
            · by_cases k1 : m.kind = 1
              · skip
                have hgood : refAt v d i = true := by
                  rw [hat]; simp [hqx, k1, k2, s2]
                simp -implicitDefEqProofs (disch := (first | omega | (simp only [go_sem] <;> omega) | fail)) only [go_sem, Nat.reduceEqDiff, ↓reduceIte, Nat.reduceAdd, Nat.reduceLT, Nat.reduceLeDiff, Nat.reduceSub, Nat.reduceMul, Int.reduceLT, Int.reduceLE, Int.reduceToNat, Int.reduceNeg, Int.reduceEq, Int.reduceAdd, Int.reduceSub, Int.reduceMul, reduceCtorEq, hqx, k1, k2, s2, h1, h2, h3, h26, h27, h28, wrap_i64]
                refine ⟨v.members.length - (i + 1), by omega, i + 1, rfl, by omega, rfl, by simp -implicitDefEqProofs (disch := (first | omega | (simp only [go_sem] <;> omega) | fail)) only [go_sem, Nat.reduceEqDiff, ↓reduceIte, Nat.reduceAdd, Nat.reduceLT, Nat.reduceLeDiff, Nat.reduceSub, Nat.reduceMul, Int.reduceLT, Int.reduceLE, Int.reduceToNat, Int.reduceNeg, Int.reduceEq, Int.reduceAdd, Int.reduceSub, Int.reduceMul, reduceCtorEq, hB], by omega, by simp -implicitDefEqProofs (disch := (first | omega | (simp only [go_sem] <;> omega) | fail)) only [go_sem, Nat.reduceEqDiff, ↓reduceIte, Nat.reduceAdd, Nat.reduceLT, Nat.reduceLeDiff, Nat.reduceSub, Nat.reduceMul, Int.reduceLT, Int.reduceLE, Int.reduceToNat, Int.reduceNeg, Int.reduceEq, Int.reduceAdd, Int.reduceSub, Int.reduceMul, reduceCtorEq, hO], fun j hj => ?_⟩
                by_cases hji : j = i
                · rw [hji]; exact hgood
                · exact hA j (by omega)
              · by_cases s1 : sgnF x < 0
                · skip
                  have hbad : refAt v d i = false := by
                    rw [hat]; simp [hqx, k2, k1, s2, s1]
                  rw [range_all_false hlt hbad] at h
                  simp -implicitDefEqProofs (disch := (first | omega | (simp only [go_sem] <;> omega) | fail)) only [go_sem, Nat.reduceEqDiff, ↓reduceIte, Nat.reduceAdd, Nat.reduceLT, Nat.reduceLeDiff, Nat.reduceSub, Nat.reduceMul, Int.reduceLT, Int.reduceLE, Int.reduceToNat, Int.reduceNeg, Int.reduceEq, Int.reduceAdd, Int.reduceSub, Int.reduceMul, reduceCtorEq, hqx, k2, k1, s2, s1, hO]
                  exact h
                · skip
                  have hgood : refAt v d i = true := by
                    rw [hat]; simp [hqx, k2, k1, s2, s1]
                  simp -implicitDefEqProofs (disch := (first | omega | (simp only [go_sem] <;> omega) | fail)) only [go_sem, Nat.reduceEqDiff, ↓reduceIte, Nat.reduceAdd, Nat.reduceLT, Nat.reduceLeDiff, Nat.reduceSub, Nat.reduceMul, Int.reduceLT, Int.reduceLE, Int.reduceToNat, Int.reduceNeg, Int.reduceEq, Int.reduceAdd, Int.reduceSub, Int.reduceMul, reduceCtorEq, hqx, k2, k1, s2, s1, h1, h2, h3, h26, h27, h28, wrap_i64]
                  refine ⟨v.members.length - (i + 1), by omega, i + 1, rfl, by omega, rfl, by simp -implicitDefEqProofs (disch := (first | omega | (simp only [go_sem] <;> omega) | fail)) only [go_sem, Nat.reduceEqDiff, ↓reduceIte, Nat.reduceAdd, Nat.reduceLT, Nat.reduceLeDiff, Nat.reduceSub, Nat.reduceMul, Int.reduceLT, Int.reduceLE, Int.reduceToNat, Int.reduceNeg, Int.reduceEq, Int.reduceAdd, Int.reduceSub, Int.reduceMul, reduceCtorEq, hB], by omega, by simp -implicitDefEqProofs (disch := (first | omega | (simp only [go_sem] <;> omega) | fail)) only [go_sem, Nat.reduceEqDiff, ↓reduceIte, Nat.reduceAdd, Nat.reduceLT, Nat.reduceLeDiff, Nat.reduceSub, Nat.reduceMul, Int.reduceLT, Int.reduceLE, Int.reduceToNat, Int.reduceNeg, Int.reduceEq, Int.reduceAdd, Int.reduceSub, Int.reduceMul, reduceCtorEq, hO], fun j hj => ?_⟩
                  by_cases hji : j = i
                  · rw [hji]; exact hgood
                  · exact hA j (by omega)
      · have hlt' : ¬ (i : Int) < v.members.length := by omega
        have hall := range_all_true (n := v.members.length) (p := refAt v d) (fun j hj => hA j (by omega))
        rw [hall] at h
        clear hA
        have hfl := freeN_len v
        have hfz : (freeZ v).length = (freeN v).length := by simp [freeZ]
        obtain ⟨hll, hlb⟩ := loadOkB_facts hlo
        simp -implicitDefEqProofs (disch := (first | omega | (simp only [go_sem] <;> omega) | fail)) only [go_sem, Nat.reduceEqDiff, ↓reduceIte, Nat.reduceAdd, Nat.reduceLT, Nat.reduceLeDiff, Nat.reduceSub, Nat.reduceMul, Int.reduceLT, Int.reduceLE, Int.reduceToNat, Int.reduceNeg, Int.reduceEq, Int.reduceAdd, Int.reduceSub, Int.reduceMul, reduceCtorEq, h1, h2, h3, h26, h27, h28, hlt']
        refine callF.plain (swhole_ok 0 (by omega) (by omega) _ _ _ ?_)
        unfold ratV
        simp -implicitDefEqProofs (disch := (first | omega | (simp only [go_sem] <;> omega) | fail)) only [go_sem, Nat.reduceEqDiff, ↓reduceIte, Nat.reduceAdd, Nat.reduceLT, Nat.reduceLeDiff, Nat.reduceSub, Nat.reduceMul, Int.reduceLT, Int.reduceLE, Int.reduceToNat, Int.reduceNeg, Int.reduceEq, Int.reduceAdd, Int.reduceSub, Int.reduceMul, reduceCtorEq, h1, h2, h3, hB']
        refine callF.plain (sfree_ok v hjn _ _ _ ?_)
        simp -implicitDefEqProofs (disch := (first | omega | (simp only [go_sem] <;> omega) | fail)) only [go_sem, Nat.reduceEqDiff, ↓reduceIte, Nat.reduceAdd, Nat.reduceLT, Nat.reduceLeDiff, Nat.reduceSub, Nat.reduceMul, Int.reduceLT, Int.reduceLE, Int.reduceToNat, Int.reduceNeg, Int.reduceEq, Int.reduceAdd, Int.reduceSub, Int.reduceMul, reduceCtorEq, hfz]
        refine Sat.loopW (fun (t : Nat) e' σ' => ∃ i kk, t = (freeN v).length - i ∧ i ≤ (freeN v).length ∧ e' 1 = ints l ∧ e' 2 = sl ratRow d ∧ e' 12 = .ptr kk 0 0 ∧ e' 65 = ints (freeZ v) ∧ e' 66 = .lit (.int .i64 (freeN v).length) ∧ e' 67 = .lit (.int .i64 (i : Nat)) ∧ kk < σ'.n ∧ σ.n ≤ kk ∧ σ'.h kk = .deep 3 [ratRow (workTo v l d i).rv] ∧ Old σ σ') (fun t => t) (freeN v).length rfl ?_ ?_
        · simp -implicitDefEqProofs (disch := (first | omega | (simp only [go_sem] <;> omega) | fail)) only [go_sem, Nat.reduceEqDiff, ↓reduceIte, Nat.reduceAdd, Nat.reduceLT, Nat.reduceLeDiff, Nat.reduceSub, Nat.reduceMul, Int.reduceLT, Int.reduceLE, Int.reduceToNat, Int.reduceNeg, Int.reduceEq, Int.reduceAdd, Int.reduceSub, Int.reduceMul, reduceCtorEq, h1, h2, hfz]
          exact ⟨0, _, by omega, by omega, rfl, rfl, by omega, by omega, by simp -implicitDefEqProofs (disch := (first | omega | (simp only [go_sem] <;> omega) | fail)) only [go_sem, Nat.reduceEqDiff, ↓reduceIte, Nat.reduceAdd, Nat.reduceLT, Nat.reduceLeDiff, Nat.reduceSub, Nat.reduceMul, Int.reduceLT, Int.reduceLE, Int.reduceToNat, Int.reduceNeg, Int.reduceEq, Int.reduceAdd, Int.reduceSub, Int.reduceMul, reduceCtorEq]; rfl, by simp -implicitDefEqProofs (disch := (first | omega | (simp only [go_sem] <;> omega) | fail)) only [go_sem, Nat.reduceEqDiff, ↓reduceIte, Nat.reduceAdd, Nat.reduceLT, Nat.reduceLeDiff, Nat.reduceSub, Nat.reduceMul, Int.reduceLT, Int.reduceLE, Int.reduceToNat, Int.reduceNeg, Int.reduceEq, Int.reduceAdd, Int.reduceSub, Int.reduceMul, reduceCtorEq, hO]⟩
        clear hi hlt hlt' h26 h27 h28 h3 h1 h2 hB hB' hn hO
        rintro t e2 σ2 ⟨i, kk, rfl, hi, h1, h2, h12, h65, h66, h67, hk1, hk2, hBk, hO⟩
        rw [ratRow_eq] at hBk
        have hwo := workTo_ok hlo d i
        by_cases hlt : i < (freeN v).length
        · have hlt' : (i : Int) < (freeN v).length := by omega
          have hlz : (i : Int) < (freeZ v).length := by omega
          obtain ⟨hgz, hjl, hjf, hjd⟩ := freeAt_facts hlt
          have hws : workTo v l d (i + 1) = addF (addF (workTo v l d i) (workX v l d (freeAt v i))) (workY v l d (freeAt v i)) := rfl
          obtain ⟨w, hw⟩ : ∃ w, workTo v l d i = w := ⟨_, rfl⟩
          rw [hw] at hBk hwo hws
          obtain ⟨j, hj⟩ : ∃ j, freeAt v i = j := ⟨_, rfl⟩
          rw [hj] at hgz hjl hws hjf hjd
          have i1 : (2 * (j : Int)).toNat = 2 * j := by omega
          have i2 : (2 * (j : Int) + 1).toNat = 2 * j + 1 := by omega
          have i3 : (2 * (i : Int)).toNat = 2 * i := by omega
          have i4 : (2 * (i : Int) + 1).toNat = 2 * i + 1 := by omega
          have hb1 := hlb (2 * j)
          have hb2 := hlb (2 * j + 1)
          have r1 : d.getD (2 * i) default = (dispX v d j).rv := by
            unfold dispX; rw [hjf, hjd, if_neg (by simp)]
            exact rv_of_fr (by rw [getD_elem d _ (by omega)]; exact hv _ (List.getElem_mem _))
          have r2 : d.getD (2 * i + 1) default = (dispY v d j).rv := by
            unfold dispY; rw [hjf, hjd, if_neg (by simp)]
            exact rv_of_fr (by rw [getD_elem d _ (by omega)]; exact hv _ (List.getElem_mem _))
          simp -implicitDefEqProofs (disch := (first | omega | (simp only [go_sem] <;> omega) | fail)) only [go_sem, Nat.reduceEqDiff, ↓reduceIte, Nat.reduceAdd, Nat.reduceLT, Nat.reduceLeDiff, Nat.reduceSub, Nat.reduceMul, Int.reduceLT, Int.reduceLE, Int.reduceToNat, Int.reduceNeg, Int.reduceEq, Int.reduceAdd, Int.reduceSub, Int.reduceMul, reduceCtorEq, h1, h2, h12, h65, h66, h67, hlt', hlz, getD_int, hgz]
          refine Sat.drawn0 [14] mixed (by kernel_rfl) ?_
          simp -implicitDefEqProofs (disch := (first | omega | (simp only [go_sem] <;> omega) | fail)) only [go_sem, Nat.reduceEqDiff, ↓reduceIte, Nat.reduceAdd, Nat.reduceLT, Nat.reduceLeDiff, Nat.reduceSub, Nat.reduceMul, Int.reduceLT, Int.reduceLE, Int.reduceToNat, Int.reduceNeg, Int.reduceEq, Int.reduceAdd, Int.reduceSub, Int.reduceMul, reduceCtorEq, h1, h2, h12, i1, i3, wrap_i64, getD_int, ratRow_eq, r1, hBk]
          refine exQ.intro (swhole_ok (l.getD (2 * j) 0) (by omega) (by omega) _ _ _ ⟨rfl, rfl⟩) ?_
          try simp -implicitDefEqProofs (disch := (first | omega | (simp only [go_sem] <;> omega) | fail)) only [go_sem, Nat.reduceEqDiff, ↓reduceIte, Nat.reduceAdd, Nat.reduceLT, Nat.reduceLeDiff, Nat.reduceSub, Nat.reduceMul, Int.reduceLT, Int.reduceLE, Int.reduceToNat, Int.reduceNeg, Int.reduceEq, Int.reduceAdd, Int.reduceSub, Int.reduceMul, reduceCtorEq]
          refine exQ.intro (sratMul_ok (wholeF (l.getD (2 * j) 0)) (dispX v d j) (whole_small (by omega)) (dispX_ok _ _ _) _ _ _ ⟨rfl, rfl⟩) ?_
          have hwx : mulF (wholeF (l.getD (2 * j) 0)) (dispX v d j) = workX v l d j := rfl
          rw [hwx]
          try simp -implicitDefEqProofs (disch := (first | omega | (simp only [go_sem] <;> omega) | fail)) only [go_sem, Nat.reduceEqDiff, ↓reduceIte, Nat.reduceAdd, Nat.reduceLT, Nat.reduceLeDiff, Nat.reduceSub, Nat.reduceMul, Int.reduceLT, Int.reduceLE, Int.reduceToNat, Int.reduceNeg, Int.reduceEq, Int.reduceAdd, Int.reduceSub, Int.reduceMul, reduceCtorEq]
          refine exQ.intro (sratAdd_ok w (workX v l d j) hwo (workX_ok hlo d j) _ _ _ ⟨rfl, rfl⟩) ?_
          unfold ratV
          simp -implicitDefEqProofs (disch := (first | omega | (simp only [go_sem] <;> omega) | fail)) only [go_sem, Nat.reduceEqDiff, ↓reduceIte, Nat.reduceAdd, Nat.reduceLT, Nat.reduceLeDiff, Nat.reduceSub, Nat.reduceMul, Int.reduceLT, Int.reduceLE, Int.reduceToNat, Int.reduceNeg, Int.reduceEq, Int.reduceAdd, Int.reduceSub, Int.reduceMul, reduceCtorEq, h1, h2, h12, hBk]
          refine Sat.drawn0 [16] mixed (by kernel_rfl) ?_
          simp -implicitDefEqProofs (disch := (first | omega | (simp only [go_sem] <;> omega) | fail)) only [go_sem, Nat.reduceEqDiff, ↓reduceIte, Nat.reduceAdd, Nat.reduceLT, Nat.reduceLeDiff, Nat.reduceSub, Nat.reduceMul, Int.reduceLT, Int.reduceLE, Int.reduceToNat, Int.reduceNeg, Int.reduceEq, Int.reduceAdd, Int.reduceSub, Int.reduceMul, reduceCtorEq, h1, h2, h12, i2, i4, wrap_i64, getD_int, ratRow_eq, r2]
          refine exQ.intro (swhole_ok (l.getD (2 * j + 1) 0) (by omega) (by omega) _ _ _ ⟨rfl, rfl⟩) ?_
          try simp -implicitDefEqProofs (disch := (first | omega | (simp only [go_sem] <;> omega) | fail)) only [go_sem, Nat.reduceEqDiff, ↓reduceIte, Nat.reduceAdd, Nat.reduceLT, Nat.reduceLeDiff, Nat.reduceSub, Nat.reduceMul, Int.reduceLT, Int.reduceLE, Int.reduceToNat, Int.reduceNeg, Int.reduceEq, Int.reduceAdd, Int.reduceSub, Int.reduceMul, reduceCtorEq]
          refine exQ.intro (sratMul_ok (wholeF (l.getD (2 * j + 1) 0)) (dispY v d j) (whole_small (by omega)) (dispY_ok _ _ _) _ _ _ ⟨rfl, rfl⟩) ?_
          have hwy : mulF (wholeF (l.getD (2 * j + 1) 0)) (dispY v d j) = workY v l d j := rfl
          rw [hwy]
          try simp -implicitDefEqProofs (disch := (first | omega | (simp only [go_sem] <;> omega) | fail)) only [go_sem, Nat.reduceEqDiff, ↓reduceIte, Nat.reduceAdd, Nat.reduceLT, Nat.reduceLeDiff, Nat.reduceSub, Nat.reduceMul, Int.reduceLT, Int.reduceLE, Int.reduceToNat, Int.reduceNeg, Int.reduceEq, Int.reduceAdd, Int.reduceSub, Int.reduceMul, reduceCtorEq]
          refine exQ.intro (sratAdd_ok _ (workY v l d j) (addF_ok hwo (workX_ok hlo d j)) (workY_ok hlo d j) _ _ _ ⟨rfl, rfl⟩) ?_
          unfold ratV
          simp -implicitDefEqProofs (disch := (first | omega | (simp only [go_sem] <;> omega) | fail)) only [go_sem, Nat.reduceEqDiff, ↓reduceIte, Nat.reduceAdd, Nat.reduceLT, Nat.reduceLeDiff, Nat.reduceSub, Nat.reduceMul, Int.reduceLT, Int.reduceLE, Int.reduceToNat, Int.reduceNeg, Int.reduceEq, Int.reduceAdd, Int.reduceSub, Int.reduceMul, reduceCtorEq, h1, h2, h12, hBk, h65, h66, h67, wrap_i64]
          exact ⟨(freeN v).length - (i + 1), by omega, i + 1, kk, rfl, by omega, rfl, rfl, by omega, by omega, by rw [hws]; simp -implicitDefEqProofs (disch := (first | omega | (simp only [go_sem] <;> omega) | fail)) only [go_sem, Nat.reduceEqDiff, ↓reduceIte, Nat.reduceAdd, Nat.reduceLT, Nat.reduceLeDiff, Nat.reduceSub, Nat.reduceMul, Int.reduceLT, Int.reduceLE, Int.reduceToNat, Int.reduceNeg, Int.reduceEq, Int.reduceAdd, Int.reduceSub, Int.reduceMul, reduceCtorEq], by simp -implicitDefEqProofs (disch := (first | omega | (simp only [go_sem] <;> omega) | fail)) only [go_sem, Nat.reduceEqDiff, ↓reduceIte, Nat.reduceAdd, Nat.reduceLT, Nat.reduceLeDiff, Nat.reduceSub, Nat.reduceMul, Int.reduceLT, Int.reduceLE, Int.reduceToNat, Int.reduceNeg, Int.reduceEq, Int.reduceAdd, Int.reduceSub, Int.reduceMul, reduceCtorEq, hO]⟩
        · have hlt' : ¬ (i : Int) < (freeN v).length := by omega
          have hie : i = (freeN v).length := by omega
          subst hie
          have hwf : workTo v l d (freeN v).length = workF v l d := rfl
          rw [hwf] at hBk hwo
          simp -implicitDefEqProofs (disch := (first | omega | (simp only [go_sem] <;> omega) | fail)) only [go_sem, Nat.reduceEqDiff, ↓reduceIte, Nat.reduceAdd, Nat.reduceLT, Nat.reduceLeDiff, Nat.reduceSub, Nat.reduceMul, Int.reduceLT, Int.reduceLE, Int.reduceToNat, Int.reduceNeg, Int.reduceEq, Int.reduceAdd, Int.reduceSub, Int.reduceMul, reduceCtorEq, h1, h2, h12, hBk, h65, h66, h67, hlt']
          refine callF.plain (sratSign_ok (workF v l d) hwo _ _ _ ?_)
          simp -implicitDefEqProofs (disch := (first | omega | (simp only [go_sem] <;> omega) | fail)) only [go_sem, Nat.reduceEqDiff, ↓reduceIte, Nat.reduceAdd, Nat.reduceLT, Nat.reduceLeDiff, Nat.reduceSub, Nat.reduceMul, Int.reduceLT, Int.reduceLE, Int.reduceToNat, Int.reduceNeg, Int.reduceEq, Int.reduceAdd, Int.reduceSub, Int.reduceMul, reduceCtorEq, hO]
          exact h
end Go.Proofs.Qqz
