/- Contracts: valid structures, on both sides. -/
import Derived.Test.YtanoekhdoelkbaaGreatStb
set_option linter.unusedSimpArgs false
set_option linter.unusedVariables false
namespace Go.Proofs.Qqz
open Go

def jOk (v : SV) (i : Nat) : Bool := jointOkB (v.joints.getD i default) && decide (namedZ v.joints (v.joints.getD i default).name = (i : Int))
def structOkB (v : SV) : Bool := decide (v.joints.length ≤ 6) && decide (v.members.length ≤ 8) && (List.range v.joints.length).all (jOk v) && v.members.all (memOkB v)

set_option maxRecDepth 100000 in
set_option maxHeartbeats 1000000 in
theorem memClo_ok (v : SV) (m : MV) (k : Nat) (e : Env) (σ : St) (hk : k < σ.n) (hB : σ.h k = .deep 2 (structRows v)) (K : KT) (h : K (.lit (.bool (!memOkB v m))) e σ) : ACall Tryz.prog 126 [memV m, .ptr k 0 0] e σ K := by
  have hB' := hB
  unfold structRows at hB'
  unfold memV
  refine ACall.pureW Tryz.func126 rfl Tryz.ntmps126 Tryz.results126 rfl rfl rfl ?_
  simp -implicitDefEqProofs (disch := (first | omega | (simp only [go_sem] <;> omega) | fail)) only [go_sem, simprocAttr, hB']
  refine callF.plain ?_
  refine ACall.eq_args (l' := [.ptr k 0 0, memV m]) (by simp -implicitDefEqProofs (disch := (first | omega | (simp only [go_sem] <;> omega) | fail)) only [go_sem, simprocAttr]; rfl) ?_
  refine memOk_ok v m k _ _ (by simp -implicitDefEqProofs (disch := (first | omega | (simp only [go_sem] <;> omega) | fail)) only [go_sem, simprocAttr]; omega) (by simp -implicitDefEqProofs (disch := (first | omega | (simp only [go_sem] <;> omega) | fail)) only [go_sem, simprocAttr, hB]) _ ?_
  simp -implicitDefEqProofs (disch := (first | omega | (simp only [go_sem] <;> omega) | fail)) only [go_sem, simprocAttr]
  exact h

set_option maxRecDepth 100000 in
set_option maxHeartbeats 1000000 in
theorem structOk_ok (v : SV) (hs : ∀ j ∈ v.joints, j.name.size ≤ 1000000000) (e : Env) (σ : St) (K : KT) (h : K (.lit (.bool (structOkB v))) e σ) : ACall Tryz.prog 81 [structV v] e σ K := by
  unfold structV
  refine ACall.pureW Tryz.func81 rfl Tryz.ntmps81 Tryz.results81 rfl rfl rfl ?_
  unfold structOkB at h
  by_cases l1 : v.joints.length ≤ 6
  · have l1' : ¬ (6 : Int) < v.joints.length := by omega
    by_cases l2 : v.members.length ≤ 8
    · have l2' : ¬ (8 : Int) < v.members.length := by omega
      rw [decide_eq_true l1, decide_eq_true l2] at h
      simp -implicitDefEqProofs (disch := (first | omega | (simp only [go_sem] <;> omega) | fail)) only [go_sem, simprocAttr, l1', l2']
      refine Sat.loopW (fun (t : Nat) e' σ' => ∃ i, t = v.joints.length - i ∧ i ≤ v.joints.length ∧ e' 1 = .ptr σ.n 0 0 ∧ e' 16 = sl jointRow v.joints ∧ e' 17 = .lit (.int .i64 v.joints.length) ∧ e' 18 = .lit (.int .i64 (i : Nat)) ∧ (∀ j, j < i → jOk v j = true) ∧ σ'.h σ.n = .deep 2 (structRows v) ∧ σ.n < σ'.n ∧ Old σ σ') (fun t => t) v.joints.length rfl ?_ ?_
      · simp -implicitDefEqProofs (disch := (first | omega | (simp only [go_sem] <;> omega) | fail)) only [go_sem, simprocAttr]
        exact ⟨0, by omega, by omega, rfl, by omega, rfl, by omega⟩
      rintro t e1 σ1 ⟨i, rfl, hi, h1, h16, h17, h18, hA, hB, hn, hO⟩
      have hB' := hB
      unfold structRows at hB'
      by_cases hlt : i < v.joints.length
      · have hlt' : (i : Int) < v.joints.length := by omega
        have hx := getD_elem v.joints i hlt default
        have hname := hs _ (List.getElem_mem hlt)
        rw [← hx] at hname
        obtain ⟨j, hj⟩ : ∃ j, v.joints.getD i default = j := ⟨_, rfl⟩
        rw [hj] at hname
        simp -implicitDefEqProofs (disch := (first | omega | (simp only [go_sem] <;> omega) | fail)) only [go_sem, simprocAttr, h1, h16, h17, h18, hlt', hj, jointRow_eq, hB']
        refine callF.plain (jointOk_ok j hname _ _ _ ?_)
        cases hjo : jointOkB j with
        | false =>
          have hbad : jOk v i = false := by unfold jOk; rw [hj, hjo]; rfl
          rw [range_all_false hlt hbad] at h
          simp -implicitDefEqProofs (disch := (first | omega | (simp only [go_sem] <;> omega) | fail)) only [go_sem, simprocAttr, h1, h16, h17, h18, hO]
          exact h
        | true =>
          simp -implicitDefEqProofs (disch := (first | omega | (simp only [go_sem] <;> omega) | fail)) only [go_sem, simprocAttr, h1, h16, h17, h18, hB', jointRow_eq]
          refine callF.plain (named_ok v j.name (by omega) _ _ _ ?_)
          by_cases hnm : namedZ v.joints j.name = (i : Int)
          · have hgood : jOk v i = true := by unfold jOk; rw [hj, hjo, decide_eq_true hnm]; rfl
            simp -implicitDefEqProofs (disch := (first | omega | (simp only [go_sem] <;> omega) | fail)) only [go_sem, simprocAttr, h1, h16, h17, h18, hnm, wrap_i64, hO]
            refine ⟨v.joints.length - (i + 1), by omega, i + 1, rfl, by omega, rfl, fun k hk => ?_, hB, by omega⟩
            by_cases hki : k = i
            · rw [hki]; exact hgood
            · exact hA k (by omega)
          · have hbad : jOk v i = false := by unfold jOk; rw [hj, hjo, decide_eq_false hnm]; rfl
            rw [range_all_false hlt hbad] at h
            simp -implicitDefEqProofs (disch := (first | omega | (simp only [go_sem] <;> omega) | fail)) only [go_sem, simprocAttr, h1, h16, h17, h18, hnm, hO]
            exact h
      · have hlt' : ¬ (i : Int) < v.joints.length := by omega
        have hall := range_all_true (n := v.joints.length) (p := jOk v) (fun j hj => hA j (by omega))
        rw [hall] at h
        simp -implicitDefEqProofs (disch := (first | omega | (simp only [go_sem] <;> omega) | fail)) only [go_sem, simprocAttr, h1, h16, h17, h18, hlt', hB']
        refine callF.plain ?_
        refine ACall.eq_args (l' := [sl memRow v.members, .clo 126 [.ptr σ.n 0 0]]) (by simp -implicitDefEqProofs (disch := (first | omega | (simp only [go_sem] <;> omega) | fail)) only [go_sem, simprocAttr]) ?_
        refine containsMembers_ok _ _ (fun m => !memOkB v m) v.members (by omega) _ _ rfl (fun m _ e K h => memClo_ok v m σ.n e _ hn hB K h) _ ?_
        rw [← List.not_all_eq_any_not]
        simp -implicitDefEqProofs (disch := (first | omega | (simp only [go_sem] <;> omega) | fail)) only [go_sem, simprocAttr, hO]
        simpa using h
    · have l2' : (8 : Int) < v.members.length := by omega
      rw [decide_eq_true l1, decide_eq_false l2] at h
      simp -implicitDefEqProofs (disch := (first | omega | (simp only [go_sem] <;> omega) | fail)) only [go_sem, simprocAttr, l1', l2']
      exact h
  · have l1' : (6 : Int) < v.joints.length := by omega
    rw [decide_eq_false l1] at h
    simp -implicitDefEqProofs (disch := (first | omega | (simp only [go_sem] <;> omega) | fail)) only [go_sem, simprocAttr, l1']
    exact h

set_option maxRecDepth 100000 in
set_option maxHeartbeats 1000000 in
theorem sstructOk_ok (v : SV) (hs : ∀ j ∈ v.joints, j.name.size ≤ 1000000000) (e : Env) (σ : St) (K : KT) (h : K (.lit (.bool (structOkB v))) e σ) : ACall Tryz.prog 76 [structV v] e σ K := by
  unfold structV
  refine ACall.pureW Tryz.func76 rfl Tryz.ntmps76 Tryz.results76 rfl rfl rfl ?_
  unfold structOkB at h
  by_cases l1 : v.joints.length ≤ 6
  · have l1' : ¬ (6 : Int) < v.joints.length := by omega
    by_cases l2 : v.members.length ≤ 8
    · have l2' : ¬ (8 : Int) < v.members.length := by omega
      rw [decide_eq_true l1, decide_eq_true l2] at h
      simp -implicitDefEqProofs (disch := (first | omega | (simp only [go_sem] <;> omega) | fail)) only [go_sem, simprocAttr, l1', l2']
      refine Sat.loopW (fun (t : Nat) e' σ' => ∃ i, t = v.joints.length - i ∧ i ≤ v.joints.length ∧ e' 1 = .ptr σ.n 0 0 ∧ e' 21 = sl jointRow v.joints ∧ e' 22 = .lit (.int .i64 v.joints.length) ∧ e' 23 = .lit (.int .i64 (i : Nat)) ∧ (∀ j, j < i → jOk v j = true) ∧ σ'.h σ.n = .deep 2 (structRows v) ∧ σ.n < σ'.n ∧ Old σ σ') (fun t => t) v.joints.length rfl ?_ ?_
      · simp -implicitDefEqProofs (disch := (first | omega | (simp only [go_sem] <;> omega) | fail)) only [go_sem, simprocAttr]
        exact ⟨0, by omega, by omega, rfl, by omega, rfl, by omega⟩
      rintro t e1 σ1 ⟨i, rfl, hi, h1, h16, h17, h18, hA, hB, hn, hO⟩
      have hB' := hB
      unfold structRows at hB'
      by_cases hlt : i < v.joints.length
      · have hlt' : (i : Int) < v.joints.length := by omega
        have hx := getD_elem v.joints i hlt default
        have hname := hs _ (List.getElem_mem hlt)
        rw [← hx] at hname
        obtain ⟨j, hj⟩ : ∃ j, v.joints.getD i default = j := ⟨_, rfl⟩
        rw [hj] at hname
        simp -implicitDefEqProofs (disch := (first | omega | (simp only [go_sem] <;> omega) | fail)) only [go_sem, simprocAttr, h1, h16, h17, h18, hlt', hj, jointRow_eq, hB']
        refine callF.plain (sjointOk_ok j hname _ _ _ ?_)
        cases hjo : jointOkB j with
        | false =>
          have hbad : jOk v i = false := by unfold jOk; rw [hj, hjo]; rfl
          rw [range_all_false hlt hbad] at h
          simp -implicitDefEqProofs (disch := (first | omega | (simp only [go_sem] <;> omega) | fail)) only [go_sem, simprocAttr, h1, h16, h17, h18, hO]
          exact h
        | true =>
          simp -implicitDefEqProofs (disch := (first | omega | (simp only [go_sem] <;> omega) | fail)) only [go_sem, simprocAttr, h1, h16, h17, h18, hB', jointRow_eq]
          refine callF.plain (snamed_ok v j.name (by omega) _ _ _ ?_)
          by_cases hnm : namedZ v.joints j.name = (i : Int)
          · have hgood : jOk v i = true := by unfold jOk; rw [hj, hjo, decide_eq_true hnm]; rfl
            simp -implicitDefEqProofs (disch := (first | omega | (simp only [go_sem] <;> omega) | fail)) only [go_sem, simprocAttr, h1, h16, h17, h18, hnm, wrap_i64, hO]
            refine ⟨v.joints.length - (i + 1), by omega, i + 1, rfl, by omega, rfl, fun k hk => ?_, hB, by omega⟩
            by_cases hki : k = i
            · rw [hki]; exact hgood
            · exact hA k (by omega)
          · have hbad : jOk v i = false := by unfold jOk; rw [hj, hjo, decide_eq_false hnm]; rfl
            rw [range_all_false hlt hbad] at h
            simp -implicitDefEqProofs (disch := (first | omega | (simp only [go_sem] <;> omega) | fail)) only [go_sem, simprocAttr, h1, h16, h17, h18, hnm, hO]
            exact h
      · have hlt' : ¬ (i : Int) < v.joints.length := by omega
        have hall := range_all_true (n := v.joints.length) (p := jOk v) (fun j hj => hA j (by omega))
        rw [hall] at h
        simp -implicitDefEqProofs (disch := (first | omega | (simp only [go_sem] <;> omega) | fail)) only [go_sem, simprocAttr, h1, h16, h17, h18, hlt', hB', wrap_i64]
        clear hA h16 h17 h18 hlt'
        refine Sat.loopW (fun (t : Nat) e' σ' => ∃ i, t = v.members.length - i ∧ i ≤ v.members.length ∧ e' 1 = .ptr σ.n 0 0 ∧ e' 5 = .lit (.int .i64 ((v.joints.length : Int) - 1)) ∧ e' 45 = sl memRow v.members ∧ e' 46 = .lit (.int .i64 v.members.length) ∧ e' 47 = .lit (.int .i64 (i : Nat)) ∧ (v.members.take i).all (memOkB v) = true ∧ σ'.h σ.n = .deep 2 (structRows v) ∧ σ.n < σ'.n ∧ Old σ σ') (fun t => t) v.members.length rfl ?_ ?_
        · simp -implicitDefEqProofs (disch := (first | omega | (simp only [go_sem] <;> omega) | fail)) only [go_sem, simprocAttr]
          exact ⟨0, by omega, by omega, h1, rfl, by simp, hB, hn, hO⟩
        clear h1 hB' hO hn hB e1 σ1
        rintro t e1 σ1 ⟨i, rfl, hi, h1, h5, h45, h46, h47, hA, hB, hn, hO⟩
        have hB' := hB
        unfold structRows at hB'
        by_cases hlt : i < v.members.length
        · have hlt' : (i : Int) < v.members.length := by omega
          have hx := getD_elem v.members i hlt default
          obtain ⟨m, hm⟩ : ∃ m, v.members.getD i default = m := ⟨_, rfl⟩
          have hmi : v.members[i] = m := by rw [← hx, hm]
          have ea : (decide (0 ≤ m.a) && decide (m.a ≤ (v.joints.length : Int) - 1)) = (decide (0 ≤ m.a) && decide (m.a < (v.joints.length : Int))) := by congr 1; apply decide_eq_decide.2; omega
          have eb : (decide (0 ≤ m.b) && decide (m.b ≤ (v.joints.length : Int) - 1)) = (decide (0 ≤ m.b) && decide (m.b < (v.joints.length : Int))) := by congr 1; apply decide_eq_decide.2; omega
          simp -implicitDefEqProofs (disch := (first | omega | (simp only [go_sem] <;> omega) | fail)) only [go_sem, simprocAttr, h1, h5, h45, h46, h47, hlt', hm, memRow_eq, hB']
          refine callF.plain (sin_ok _ _ _ _ _ _ ?_)
          rw [ea]
          by_cases za : ¬ (0 ≤ m.a ∧ m.a < (v.joints.length : Int))
          · have : (decide (0 ≤ m.a) && decide (m.a < (v.joints.length : Int))) = false := by simp; omega
            rw [this]
            have hbad : memOkB v v.members[i] = false := by rw [hmi]; simp [memOkB]; omega
            rw [all_not hlt hbad, Bool.and_false] at h
            simp -implicitDefEqProofs (disch := (first | omega | (simp only [go_sem] <;> omega) | fail)) only [go_sem, simprocAttr, h1, h5, h45, h46, h47, hB', hO, Bool.not_true]
            exact h
          have za := Decidable.not_not.1 za
          have qa : (decide (0 ≤ m.a) && decide (m.a < (v.joints.length : Int))) = true := by simp; omega
          rw [qa]
          simp -implicitDefEqProofs (disch := (first | omega | (simp only [go_sem] <;> omega) | fail)) only [go_sem, simprocAttr, h1, h5, h45, h46, h47, hB', memRow_eq]
          refine callF.plain (sin_ok _ _ _ _ _ _ ?_)
          rw [eb]
          by_cases zb : ¬ (0 ≤ m.b ∧ m.b < (v.joints.length : Int))
          · have : (decide (0 ≤ m.b) && decide (m.b < (v.joints.length : Int))) = false := by simp; omega
            rw [this]
            have hbad : memOkB v v.members[i] = false := by rw [hmi]; simp [memOkB]; omega
            rw [all_not hlt hbad, Bool.and_false] at h
            simp -implicitDefEqProofs (disch := (first | omega | (simp only [go_sem] <;> omega) | fail)) only [go_sem, simprocAttr, h1, h5, h45, h46, h47, hB', hO, Bool.not_true]
            exact h
          have zb := Decidable.not_not.1 zb
          have qb : (decide (0 ≤ m.b) && decide (m.b < (v.joints.length : Int))) = true := by simp; omega
          rw [qb]
          simp -implicitDefEqProofs (disch := (first | omega | (simp only [go_sem] <;> omega) | fail)) only [go_sem, simprocAttr, h1, h5, h45, h46, h47, hB', memRow_eq]
          refine callF.plain (sin_ok _ _ _ _ _ _ ?_)
          by_cases zk : ¬ (1 ≤ m.kind ∧ m.kind ≤ 3)
          · have : (decide (1 ≤ m.kind) && decide (m.kind ≤ 3)) = false := by simp; omega
            rw [this]
            have hbad : memOkB v v.members[i] = false := by rw [hmi]; simp [memOkB]; omega
            rw [all_not hlt hbad, Bool.and_false] at h
            simp -implicitDefEqProofs (disch := (first | omega | (simp only [go_sem] <;> omega) | fail)) only [go_sem, simprocAttr, h1, h5, h45, h46, h47, hB', hO, Bool.not_true]
            exact h
          have zk := Decidable.not_not.1 zk
          have qk : (decide (1 ≤ m.kind) && decide (m.kind ≤ 3)) = true := by simp; omega
          rw [qk]
          obtain ⟨za0, za1⟩ := za
          obtain ⟨zb0, zb1⟩ := zb
          obtain ⟨ja, hja⟩ : ∃ ja, v.joints.getD m.a.toNat default = ja := ⟨_, rfl⟩
          obtain ⟨jb, hjb⟩ : ∃ jb, v.joints.getD m.b.toNat default = jb := ⟨_, rfl⟩
          have hmem : memOkB v m = ((!decide (ja.x = jb.x) || !decide (ja.y = jb.y)) && !(ja.fixed && jb.fixed)) := by
            unfold memOkB
            rw [qa, qb, qk, hja, hjb]; rfl
          by_cases hx : ja.x = jb.x
          · by_cases hy : ja.y = jb.y
            · skip
              simp -implicitDefEqProofs (disch := (first | omega | (simp only [go_sem] <;> omega) | fail)) only [go_sem, simprocAttr, h1, h5, h45, h46, h47, hB', memRow_eq, jointRow_eq, hja, hjb, wrap_i64, hO, hx, hy]
              first
              | (have hbad : memOkB v v.members[i] = false := by
                  rw [hmi, hmem]; simp [hx, hy]
                 rw [all_not hlt hbad, Bool.and_false] at h
                 exact h)
              | (have hgood : memOkB v v.members[i] = true := by
                  rw [hmi, hmem]; simp [hx, hy]
                 exact ⟨v.members.length - (i + 1), by omega, i + 1, rfl, by omega, rfl, all_take_succ hlt hA hgood, rfl, by omega⟩)
            · cases hfa : ja.fixed with
              | false =>
                simp -implicitDefEqProofs (disch := (first | omega | (simp only [go_sem] <;> omega) | fail)) only [go_sem, simprocAttr, h1, h5, h45, h46, h47, hB', memRow_eq, jointRow_eq, hja, hjb, wrap_i64, hO, hx, hy, hfa]
                first
                | (have hbad : memOkB v v.members[i] = false := by
                    rw [hmi, hmem]; simp [hx, hy, hfa]
                   rw [all_not hlt hbad, Bool.and_false] at h
                   exact h)
                | (have hgood : memOkB v v.members[i] = true := by
                    rw [hmi, hmem]; simp [hx, hy, hfa]
                   exact ⟨v.members.length - (i + 1), by omega, i + 1, rfl, by omega, rfl, all_take_succ hlt hA hgood, rfl, by omega⟩)
              | true =>
                cases hfb : jb.fixed with
                | false =>
                  simp -implicitDefEqProofs (disch := (first | omega | (simp only [go_sem] <;> omega) | fail)) only [go_sem, simprocAttr, h1, h5, h45, h46, h47, hB', memRow_eq, jointRow_eq, hja, hjb, wrap_i64, hO, hx, hy, hfa, hfb]
                  first
                  | (have hbad : memOkB v v.members[i] = false := by
                      rw [hmi, hmem]; simp [hx, hy, hfa, hfb]
                     rw [all_not hlt hbad, Bool.and_false] at h
                     exact h)
                  | (have hgood : memOkB v v.members[i] = true := by
                      rw [hmi, hmem]; simp [hx, hy, hfa, hfb]
                     exact ⟨v.members.length - (i + 1), by omega, i + 1, rfl, by omega, rfl, all_take_succ hlt hA hgood, rfl, by omega⟩)
                | true =>
                  simp -implicitDefEqProofs (disch := (first | omega | (simp only [go_sem] <;> omega) | fail)) only [go_sem, simprocAttr, h1, h5, h45, h46, h47, hB', memRow_eq, jointRow_eq, hja, hjb, wrap_i64, hO, hx, hy, hfa, hfb]
                  first
                  | (have hbad : memOkB v v.members[i] = false := by
                      rw [hmi, hmem]; simp [hx, hy, hfa, hfb]
                     rw [all_not hlt hbad, Bool.and_false] at h
                     exact h)
                  | (have hgood : memOkB v v.members[i] = true := by
                      rw [hmi, hmem]; simp [hx, hy, hfa, hfb]
                     exact ⟨v.members.length - (i + 1), by omega, i + 1, rfl, by omega, rfl, all_take_succ hlt hA hgood, rfl, by omega⟩)
          · cases hfa : ja.fixed with
            | false =>
              simp -implicitDefEqProofs (disch := (first | omega | (simp only [go_sem] <;> omega) | fail)) only [go_sem, simprocAttr, h1, h5, h45, h46, h47, hB', memRow_eq, jointRow_eq, hja, hjb, wrap_i64, hO, hx, hfa]
              first
              | (have hbad : memOkB v v.members[i] = false := by
                  rw [hmi, hmem]; simp [hx, hfa]
                 rw [all_not hlt hbad, Bool.and_false] at h
                 exact h)
              | (have hgood : memOkB v v.members[i] = true := by
                  rw [hmi, hmem]; simp [hx, hfa]
                 exact ⟨v.members.length - (i + 1), by omega, i + 1, rfl, by omega, rfl, all_take_succ hlt hA hgood, rfl, by omega⟩)
            | true =>
              cases hfb : jb.fixed with
              | false =>
                simp -implicitDefEqProofs (disch := (first | omega | (simp only [go_sem] <;> omega) | fail)) only [go_sem, simprocAttr, h1, h5, h45, h46, h47, hB', memRow_eq, jointRow_eq, hja, hjb, wrap_i64, hO, hx, hfa, hfb]
                first
                | (have hbad : memOkB v v.members[i] = false := by
                    rw [hmi, hmem]; simp [hx, hfa, hfb]
                   rw [all_not hlt hbad, Bool.and_false] at h
                   exact h)
                | (have hgood : memOkB v v.members[i] = true := by
                    rw [hmi, hmem]; simp [hx, hfa, hfb]
                   exact ⟨v.members.length - (i + 1), by omega, i + 1, rfl, by omega, rfl, all_take_succ hlt hA hgood, rfl, by omega⟩)
              | true =>
                simp -implicitDefEqProofs (disch := (first | omega | (simp only [go_sem] <;> omega) | fail)) only [go_sem, simprocAttr, h1, h5, h45, h46, h47, hB', memRow_eq, jointRow_eq, hja, hjb, wrap_i64, hO, hx, hfa, hfb]
                first
                | (have hbad : memOkB v v.members[i] = false := by
                    rw [hmi, hmem]; simp [hx, hfa, hfb]
                   rw [all_not hlt hbad, Bool.and_false] at h
                   exact h)
                | (have hgood : memOkB v v.members[i] = true := by
                    rw [hmi, hmem]; simp [hx, hfa, hfb]
                   exact ⟨v.members.length - (i + 1), by omega, i + 1, rfl, by omega, rfl, all_take_succ hlt hA hgood, rfl, by omega⟩)
        · have hlt' : ¬ (i : Int) < v.members.length := by omega
          have hie : i = v.members.length := by omega
          subst hie
          rw [List.take_of_length_le (Nat.le_refl _)] at hA
          rw [hA] at h
          simp -implicitDefEqProofs (disch := (first | omega | (simp only [go_sem] <;> omega) | fail)) only [go_sem, simprocAttr, h1, h5, h45, h46, h47, hlt', hO]
          exact h
    · have l2' : (8 : Int) < v.members.length := by omega
      rw [decide_eq_true l1, decide_eq_false l2] at h
      simp -implicitDefEqProofs (disch := (first | omega | (simp only [go_sem] <;> omega) | fail)) only [go_sem, simprocAttr, l1', l2']
      exact h
  · have l1' : (6 : Int) < v.joints.length := by omega
    rw [decide_eq_false l1] at h
    simp -implicitDefEqProofs (disch := (first | omega | (simp only [go_sem] <;> omega) | fail)) only [go_sem, simprocAttr, l1']
    exact h
end Go.Proofs.Qqz
