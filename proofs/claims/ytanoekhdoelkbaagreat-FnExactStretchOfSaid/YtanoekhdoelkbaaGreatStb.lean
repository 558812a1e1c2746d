/- Contracts: valid structures. -/
import Derived.Test.YtanoekhdoelkbaaGreatSta
import Derived.Test.YtanoekhdoelkbaaGreatTree
set_option linter.unusedSimpArgs false
set_option linter.unusedVariables false
namespace Go.Proofs.Qqz
open Go

set_option maxRecDepth 100000 in
set_option maxHeartbeats 1000000 in
theorem sisName_ok (s : ByteArray) (hs : s.size ≤ 1000000000) (e : Env) (σ : St) (K : KT) (h : K (.lit (.bool (nameOkB s))) e σ) : ACall Tryz.prog 150 [.lit (.string s)] e σ K := by
  refine ACall.pureW Tryz.func150 rfl Tryz.ntmps150 Tryz.results150 rfl rfl rfl ?_
  unfold nameOkB at h
  simp -implicitDefEqProofs (disch := (first | omega | (simp only [go_sem] <;> omega) | fail)) only [go_sem, simprocAttr]
  refine Sat.loopW (fun (t : Nat) e' σ' => ∃ i, t = s.size - i ∧ i ≤ s.size ∧ e' 0 = .lit (.string s) ∧ e' 3 = .lit (.int .i64 (i : Nat)) ∧ (∀ j, j < i → chOk j (byteZ s j) = true) ∧ σ' = σ) (fun t => t) s.size rfl ⟨0, by omega, by omega, rfl, rfl, by omega, rfl⟩ ?_
  rintro t e1 σ1 ⟨i, rfl, hi, h0, h3, hA, rfl⟩
  by_cases hlt : i < s.size
  · have hlt' : (i : Int) < s.size := by omega
    have hb : ((s.data.toList.getD i 0).toNat : Int) = byteZ s i := rfl
    by_cases c0 : 97 ≤ byteZ s i
    · by_cases c1 : byteZ s i ≤ 122
      · skip
        have hgood : chOk i (byteZ s i) = true := by simp [chOk]; omega
        simp -implicitDefEqProofs (disch := (first | omega | (simp only [go_sem] <;> omega) | fail)) only [go_sem, simprocAttr, h0, h3, hlt', hb, wrap_i64, c0, c1]
        have hnew : ∀ j, j < i + 1 → chOk j (byteZ s j) = true := by
          intro j hj
          by_cases hji : j = i
          · rw [hji]; exact hgood
          · exact hA j (by omega)
        exact ⟨s.size - (i + 1), by omega, i + 1, rfl, by omega, rfl, hnew⟩
      · skip
        by_cases hz : i = 0
        · subst hz
          have hlt0 : (0 : Int) < s.size := by omega
          have hbad : chOk 0 (byteZ s 0) = false := by simp [chOk]; omega
          rw [range_all_false hlt hbad] at h
          simp -implicitDefEqProofs (disch := (first | omega | (simp only [go_sem] <;> omega) | fail)) only [go_sem, simprocAttr, h0, h3, hlt', hb, wrap_i64, c0, c1, hlt0]
          exact h
        · have hz' : ¬ (i : Int) = 0 := by omega
          by_cases g0 : byteZ s i < 48
          · skip
            have hbad : chOk i (byteZ s i) = false := by simp [chOk]; omega
            rw [range_all_false hlt hbad] at h
            simp -implicitDefEqProofs (disch := (first | omega | (simp only [go_sem] <;> omega) | fail)) only [go_sem, simprocAttr, h0, h3, hlt', hb, wrap_i64, c0, c1, hz', g0]
            exact h
          · by_cases g1 : 57 < byteZ s i
            · skip
              have hbad : chOk i (byteZ s i) = false := by simp [chOk]; omega
              rw [range_all_false hlt hbad] at h
              simp -implicitDefEqProofs (disch := (first | omega | (simp only [go_sem] <;> omega) | fail)) only [go_sem, simprocAttr, h0, h3, hlt', hb, wrap_i64, c0, c1, hz', g0, g1]
              exact h
            · skip
              exfalso; omega
    · skip
      by_cases hz : i = 0
      · subst hz
        have hlt0 : (0 : Int) < s.size := by omega
        have hbad : chOk 0 (byteZ s 0) = false := by simp [chOk]; omega
        rw [range_all_false hlt hbad] at h
        simp -implicitDefEqProofs (disch := (first | omega | (simp only [go_sem] <;> omega) | fail)) only [go_sem, simprocAttr, h0, h3, hlt', hb, wrap_i64, c0, hlt0]
        exact h
      · have hz' : ¬ (i : Int) = 0 := by omega
        by_cases g0 : byteZ s i < 48
        · skip
          have hbad : chOk i (byteZ s i) = false := by simp [chOk]; omega
          rw [range_all_false hlt hbad] at h
          simp -implicitDefEqProofs (disch := (first | omega | (simp only [go_sem] <;> omega) | fail)) only [go_sem, simprocAttr, h0, h3, hlt', hb, wrap_i64, c0, hz', g0]
          exact h
        · by_cases g1 : 57 < byteZ s i
          · skip
            have hbad : chOk i (byteZ s i) = false := by simp [chOk]; omega
            rw [range_all_false hlt hbad] at h
            simp -implicitDefEqProofs (disch := (first | omega | (simp only [go_sem] <;> omega) | fail)) only [go_sem, simprocAttr, h0, h3, hlt', hb, wrap_i64, c0, hz', g0, g1]
            exact h
          · skip
            have hgood : chOk i (byteZ s i) = true := by simp [chOk]; omega
            simp -implicitDefEqProofs (disch := (first | omega | (simp only [go_sem] <;> omega) | fail)) only [go_sem, simprocAttr, h0, h3, hlt', hb, wrap_i64, c0, hz', g0, g1]
            have hnew : ∀ j, j < i + 1 → chOk j (byteZ s j) = true := by
              intro j hj
              by_cases hji : j = i
              · rw [hji]; exact hgood
              · exact hA j (by omega)
            exact ⟨s.size - (i + 1), by omega, i + 1, rfl, by omega, rfl, hnew⟩
  · have hlt' : ¬ (i : Int) < s.size := by omega
    have hall := range_all_true (n := s.size) (p := fun i => chOk i (byteZ s i)) (fun j hj => hA j (by omega))
    rw [hall] at h
    simp -implicitDefEqProofs (disch := (first | omega | (simp only [go_sem] <;> omega) | fail)) only [go_sem, simprocAttr, h0, h3, hlt']
    refine callF.plain (sin_ok _ _ _ _ _ _ ?_)
    have e1 : decide ((1 : Int) ≤ (s.size : Int)) = decide (1 ≤ s.size) := by apply decide_eq_decide.2; omega
    have e2 : decide ((s.size : Int) ≤ 8) = decide (s.size ≤ 8) := by apply decide_eq_decide.2; omega
    rw [e1, e2]
    simp -implicitDefEqProofs (disch := (first | omega | (simp only [go_sem] <;> omega) | fail)) only [go_sem, simprocAttr]
    exact h

def jointOkB (j : JV) : Bool := nameOkB j.name && (decide (-50 ≤ j.x) && decide (j.x ≤ 50)) && (decide (-50 ≤ j.y) && decide (j.y ≤ 50))

set_option maxRecDepth 100000 in
set_option maxHeartbeats 1000000 in
theorem jointOk_ok (j : JV) (hs : j.name.size ≤ 1000000000) (e : Env) (σ : St) (K : KT) (h : K (.lit (.bool (jointOkB j))) e σ) : ACall Tryz.prog 123 [jointV j] e σ K := by
  unfold jointV
  refine ACall.pureW Tryz.func123 rfl Tryz.ntmps123 Tryz.results123 rfl rfl rfl ?_
  unfold jointOkB at h
  simp -implicitDefEqProofs (disch := (first | omega | (simp only [go_sem] <;> omega) | fail)) only [go_sem, simprocAttr]
  refine callF.plain (isName_ok _ hs _ _ _ ?_)
  cases h1 : nameOkB j.name with
  | false =>
    rw [h1] at h
    simp -implicitDefEqProofs (disch := (first | omega | (simp only [go_sem] <;> omega) | fail)) only [go_sem, simprocAttr]
    exact h
  | true =>
    rw [h1] at h
    simp -implicitDefEqProofs (disch := (first | omega | (simp only [go_sem] <;> omega) | fail)) only [go_sem, simprocAttr]
    refine callF.plain (isPlace_ok _ _ _ _ ?_)
    cases h2 : (decide (-50 ≤ j.x) && decide (j.x ≤ 50)) with
    | false =>
      rw [h2] at h
      simp -implicitDefEqProofs (disch := (first | omega | (simp only [go_sem] <;> omega) | fail)) only [go_sem, simprocAttr]
      exact h
    | true =>
      rw [h2] at h
      simp -implicitDefEqProofs (disch := (first | omega | (simp only [go_sem] <;> omega) | fail)) only [go_sem, simprocAttr]
      refine callF.plain (isPlace_ok _ _ _ _ ?_)
      simp -implicitDefEqProofs (disch := (first | omega | (simp only [go_sem] <;> omega) | fail)) only [go_sem, simprocAttr]
      exact h

set_option maxRecDepth 100000 in
set_option maxHeartbeats 1000000 in
theorem sjointOk_ok (j : JV) (hs : j.name.size ≤ 1000000000) (e : Env) (σ : St) (K : KT) (h : K (.lit (.bool (jointOkB j))) e σ) : ACall Tryz.prog 120 [jointV j] e σ K := by
  unfold jointV
  refine ACall.pureW Tryz.func120 rfl Tryz.ntmps120 Tryz.results120 rfl rfl rfl ?_
  unfold jointOkB at h
  simp -implicitDefEqProofs (disch := (first | omega | (simp only [go_sem] <;> omega) | fail)) only [go_sem, simprocAttr]
  refine callF.plain (sisName_ok _ hs _ _ _ ?_)
  cases h1 : nameOkB j.name with
  | false =>
    rw [h1] at h
    simp -implicitDefEqProofs (disch := (first | omega | (simp only [go_sem] <;> omega) | fail)) only [go_sem, simprocAttr]
    exact h
  | true =>
    rw [h1] at h
    simp -implicitDefEqProofs (disch := (first | omega | (simp only [go_sem] <;> omega) | fail)) only [go_sem, simprocAttr]
    refine callF.plain (sin_ok _ _ _ _ _ _ ?_)
    cases h2 : (decide (-50 ≤ j.x) && decide (j.x ≤ 50)) with
    | false =>
      rw [h2] at h
      simp -implicitDefEqProofs (disch := (first | omega | (simp only [go_sem] <;> omega) | fail)) only [go_sem, simprocAttr]
      exact h
    | true =>
      rw [h2] at h
      simp -implicitDefEqProofs (disch := (first | omega | (simp only [go_sem] <;> omega) | fail)) only [go_sem, simprocAttr]
      refine callF.plain (sin_ok _ _ _ _ _ _ ?_)
      simp -implicitDefEqProofs (disch := (first | omega | (simp only [go_sem] <;> omega) | fail)) only [go_sem, simprocAttr]
      exact h

/-- The number of the first joint of a name. -/
def namedZ (l : List JV) (s : ByteArray) : Int := idxZ (fun j => decide (j.name.toList = s.toList)) l

set_option maxRecDepth 100000 in
set_option maxHeartbeats 1000000 in
theorem named1_ok (j : JV) (s : ByteArray) (k : Nat) (e : Env) (σ : St) (hk : k < σ.n) (hB : σ.h k = .deep 1 [[.lit (.string s)]]) (K : KT) (h : K (.lit (.bool (decide (j.name.toList = s.toList)))) e σ) : ACall Tryz.prog 155 [jointV j, .ptr k 0 0] e σ K := by
  unfold jointV
  refine ACall.pureW Tryz.func155 rfl Tryz.ntmps155 Tryz.results155 rfl rfl rfl ?_
  simp -implicitDefEqProofs (disch := (first | omega | (simp only [go_sem] <;> omega) | fail)) only [go_sem, simprocAttr, hB]
  exact h

set_option maxRecDepth 100000 in
set_option maxHeartbeats 1000000 in
theorem named_ok (v : SV) (s : ByteArray) (hl : v.joints.length ≤ 1000000000) (e : Env) (σ : St) (K : KT) (h : K (.lit (.int .i64 (namedZ v.joints s))) e σ) : ACall Tryz.prog 124 [structV v, .lit (.string s)] e σ K := by
  unfold structV
  refine ACall.pureW Tryz.func124 rfl Tryz.ntmps124 Tryz.results124 rfl rfl rfl ?_
  simp -implicitDefEqProofs (disch := (first | omega | (simp only [go_sem] <;> omega) | fail)) only [go_sem, simprocAttr]
  refine callF.plain ?_
  refine ACall.eq_args (l' := [sl jointRow v.joints, .clo 155 [.ptr (σ.n + 1) 0 0]]) (by simp -implicitDefEqProofs (disch := (first | omega | (simp only [go_sem] <;> omega) | fail)) only [go_sem, simprocAttr]) ?_
  refine indexJoints_ok _ _ (fun j => decide (j.name.toList = s.toList)) v.joints hl _ _ rfl (fun j _ e K h => named1_ok j s _ e _ (by simp -implicitDefEqProofs (disch := (first | omega | (simp only [go_sem] <;> omega) | fail)) only [go_sem, simprocAttr]; omega) (by simp -implicitDefEqProofs (disch := (first | omega | (simp only [go_sem] <;> omega) | fail)) only [go_sem, simprocAttr]) K h) _ ?_
  simp -implicitDefEqProofs (disch := (first | omega | (simp only [go_sem] <;> omega) | fail)) only [go_sem, simprocAttr]
  exact h

set_option maxRecDepth 100000 in
set_option maxHeartbeats 1000000 in
theorem snamed_ok (v : SV) (s : ByteArray) (hl : v.joints.length ≤ 1000000000) (e : Env) (σ : St) (K : KT) (h : K (.lit (.int .i64 (namedZ v.joints s))) e σ) : ACall Tryz.prog 121 [structV v, .lit (.string s)] e σ K := by
  unfold structV
  refine ACall.pureW Tryz.func121 rfl Tryz.ntmps121 Tryz.results121 rfl rfl rfl ?_
  simp -implicitDefEqProofs (disch := (first | omega | (simp only [go_sem] <;> omega) | fail)) only [go_sem, simprocAttr]
  refine Sat.loopW (fun (t : Nat) e' σ' => ∃ i, t = v.joints.length - i ∧ i ≤ v.joints.length ∧ e' 1 = .lit (.string s) ∧ e' 8 = sl jointRow v.joints ∧ e' 9 = .lit (.int .i64 v.joints.length) ∧ e' 10 = .lit (.int .i64 (i : Nat)) ∧ v.joints.findIdx? (fun j => decide (j.name.toList = s.toList)) = ((v.joints.drop i).findIdx? (fun j => decide (j.name.toList = s.toList))).map (· + i) ∧ Old σ σ') (fun t => t) v.joints.length rfl ?_ ?_
  · simp -implicitDefEqProofs (disch := (first | omega | (simp only [go_sem] <;> omega) | fail)) only [go_sem, simprocAttr]
    exact ⟨0, by omega, by omega, rfl, idx_start _ _⟩
  rintro t e1 σ1 ⟨i, rfl, hi, h1, h8, h9, h10, hf, hO⟩
  have hOn := hO.1
  by_cases hlt : i < v.joints.length
  · have hlt' : (i : Int) < v.joints.length := by omega
    have hx := getD_elem v.joints i hlt default
    by_cases hp : v.joints[i].name.toList = s.toList
    · simp -implicitDefEqProofs (disch := (first | omega | (simp only [go_sem] <;> omega) | fail)) only [go_sem, simprocAttr, h1, h8, h9, h10, hlt', hx, jointRow_eq, hp]
      unfold namedZ at h
      rw [idx_hit hlt (decide_eq_true hp) hf] at h
      exact ⟨by simp -implicitDefEqProofs (disch := (first | omega | (simp only [go_sem] <;> omega) | fail)) only [go_sem, simprocAttr, hO], h⟩
    · simp -implicitDefEqProofs (disch := (first | omega | (simp only [go_sem] <;> omega) | fail)) only [go_sem, simprocAttr, h1, h8, h9, h10, hlt', hx, jointRow_eq, hp, wrap_i64]
      refine ⟨v.joints.length - (i + 1), by omega, i + 1, rfl, by omega, rfl, ?_, by simp -implicitDefEqProofs (disch := (first | omega | (simp only [go_sem] <;> omega) | fail)) only [go_sem, simprocAttr, hO]⟩
      rw [hf]; exact findIdx_drop _ _ i hlt (decide_eq_false hp)
  · have hlt' : ¬ (i : Int) < v.joints.length := by omega
    simp -implicitDefEqProofs (disch := (first | omega | (simp only [go_sem] <;> omega) | fail)) only [go_sem, simprocAttr, h1, h8, h9, h10, hlt']
    unfold namedZ at h
    rw [idx_end hlt hf] at h
    exact ⟨hO, h⟩

/-- A member of a structure is valid. -/
def memOkB (v : SV) (m : MV) : Bool :=
  (decide (0 ≤ m.a) && decide (m.a < v.joints.length)) && (decide (0 ≤ m.b) && decide (m.b < v.joints.length)) && (decide (1 ≤ m.kind) && decide (m.kind ≤ 3)) &&
  ((!decide ((v.joints.getD m.a.toNat default).x = (v.joints.getD m.b.toNat default).x) || !decide ((v.joints.getD m.a.toNat default).y = (v.joints.getD m.b.toNat default).y)) && !((v.joints.getD m.a.toNat default).fixed && (v.joints.getD m.b.toNat default).fixed))

def structRows (v : SV) : List (List AV) := [[sl jointRow v.joints, sl memRow v.members]]

set_option maxRecDepth 100000 in
set_option maxHeartbeats 1000000 in
theorem memOk_ok (v : SV) (m : MV) (k : Nat) (e : Env) (σ : St) (hk : k < σ.n) (hB : σ.h k = .deep 2 (structRows v)) (K : KT) (h : K (.lit (.bool (memOkB v m))) e σ) : ACall Tryz.prog 127 [.ptr k 0 0, memV m] e σ K := by
  unfold memV
  unfold structRows at hB
  refine ACall.pureW Tryz.func127 rfl Tryz.ntmps127 Tryz.results127 rfl rfl rfl ?_
  unfold memOkB at h
  by_cases a0 : m.a < 0
  · skip
    have hb : ∀ x : Bool, x = false → K (.lit (.bool x)) e σ → K (.lit (.bool false)) e σ := fun x hx h => hx ▸ h
    simp -implicitDefEqProofs (disch := (first | omega | (simp only [go_sem] <;> omega) | fail)) only [go_sem, simprocAttr, hB, a0]
    exact hb _ (by simp; omega) h
  by_cases a1 : (v.joints.length : Int) ≤ m.a
  · skip
    have hb : ∀ x : Bool, x = false → K (.lit (.bool x)) e σ → K (.lit (.bool false)) e σ := fun x hx h => hx ▸ h
    simp -implicitDefEqProofs (disch := (first | omega | (simp only [go_sem] <;> omega) | fail)) only [go_sem, simprocAttr, hB, a0, a1]
    exact hb _ (by simp; omega) h
  by_cases b0 : m.b < 0
  · skip
    have hb : ∀ x : Bool, x = false → K (.lit (.bool x)) e σ → K (.lit (.bool false)) e σ := fun x hx h => hx ▸ h
    simp -implicitDefEqProofs (disch := (first | omega | (simp only [go_sem] <;> omega) | fail)) only [go_sem, simprocAttr, hB, a0, a1, b0]
    exact hb _ (by simp; omega) h
  by_cases b1 : (v.joints.length : Int) ≤ m.b
  · skip
    have hb : ∀ x : Bool, x = false → K (.lit (.bool x)) e σ → K (.lit (.bool false)) e σ := fun x hx h => hx ▸ h
    simp -implicitDefEqProofs (disch := (first | omega | (simp only [go_sem] <;> omega) | fail)) only [go_sem, simprocAttr, hB, a0, a1, b0, b1]
    exact hb _ (by simp; omega) h
  by_cases k0 : m.kind < 1
  · skip
    have hb : ∀ x : Bool, x = false → K (.lit (.bool x)) e σ → K (.lit (.bool false)) e σ := fun x hx h => hx ▸ h
    simp -implicitDefEqProofs (disch := (first | omega | (simp only [go_sem] <;> omega) | fail)) only [go_sem, simprocAttr, hB, a0, a1, b0, b1, k0]
    exact hb _ (by simp; omega) h
  by_cases k1 : 3 < m.kind
  · skip
    have hb : ∀ x : Bool, x = false → K (.lit (.bool x)) e σ → K (.lit (.bool false)) e σ := fun x hx h => hx ▸ h
    simp -implicitDefEqProofs (disch := (first | omega | (simp only [go_sem] <;> omega) | fail)) only [go_sem, simprocAttr, hB, a0, a1, b0, b1, k0, k1]
    exact hb _ (by simp; omega) h
  have q1 : (decide (0 ≤ m.a) && decide (m.a < v.joints.length)) = true := by simp; omega
  have q2 : (decide (0 ≤ m.b) && decide (m.b < v.joints.length)) = true := by simp; omega
  have q3 : (decide (1 ≤ m.kind) && decide (m.kind ≤ 3)) = true := by simp; omega
  rw [q1, q2, q3] at h
  have z1 : 0 ≤ m.a := by omega
  have z2 : m.a < v.joints.length := by omega
  have z3 : 0 ≤ m.b := by omega
  have z4 : m.b < v.joints.length := by omega
  simp -implicitDefEqProofs (disch := (first | omega | (simp only [go_sem] <;> omega) | fail)) only [go_sem, simprocAttr, hB, a0, a1, b0, b1, k0, k1]
  refine Sat.drawnT [16, 17, 18, 19] (.two 16 (.two 17 (.one 18 (.one 19 .leaf)) 18 (.one 17 (.one 19 .leaf))) 17 (.one 16 (.one 18 (.one 19 .leaf)))) mixed (by kernel_rfl) ?_
  obtain ⟨ja, hja⟩ : ∃ ja, v.joints.getD m.a.toNat default = ja := ⟨_, rfl⟩
  obtain ⟨jb, hjb⟩ : ∃ jb, v.joints.getD m.b.toNat default = jb := ⟨_, rfl⟩
  rw [hja, hjb] at h
  by_cases hx : ja.x = jb.x
  · by_cases hy : ja.y = jb.y
    · skip
      simp -implicitDefEqProofs (disch := (first | omega | (simp only [go_sem] <;> omega) | fail)) only [go_sem, simprocAttr, hB, jointRow_eq, hja, hjb, hx, hy]
      simp [hx, hy] at h
      first | exact h | exact ⟨h, h⟩ | exact ⟨⟨h, h⟩, h⟩ | exact ⟨h, h, h⟩
    · cases hfa : ja.fixed with
      | false =>
        simp -implicitDefEqProofs (disch := (first | omega | (simp only [go_sem] <;> omega) | fail)) only [go_sem, simprocAttr, hB, jointRow_eq, hja, hjb, hx, hy, hfa]
        simp [hx, hy, hfa] at h
        first | exact h | exact ⟨h, h⟩ | exact ⟨⟨h, h⟩, h⟩ | exact ⟨h, h, h⟩
      | true =>
        cases hfb : jb.fixed with
        | false =>
          simp -implicitDefEqProofs (disch := (first | omega | (simp only [go_sem] <;> omega) | fail)) only [go_sem, simprocAttr, hB, jointRow_eq, hja, hjb, hx, hy, hfa, hfb]
          simp [hx, hy, hfa, hfb] at h
          first | exact h | exact ⟨h, h⟩ | exact ⟨⟨h, h⟩, h⟩ | exact ⟨h, h, h⟩
        | true =>
          simp -implicitDefEqProofs (disch := (first | omega | (simp only [go_sem] <;> omega) | fail)) only [go_sem, simprocAttr, hB, jointRow_eq, hja, hjb, hx, hy, hfa, hfb]
          simp [hx, hy, hfa, hfb] at h
          first | exact h | exact ⟨h, h⟩ | exact ⟨⟨h, h⟩, h⟩ | exact ⟨h, h, h⟩
  · cases hfa : ja.fixed with
    | false =>
      simp -implicitDefEqProofs (disch := (first | omega | (simp only [go_sem] <;> omega) | fail)) only [go_sem, simprocAttr, hB, jointRow_eq, hja, hjb, hx, hfa]
      simp [hx, hfa] at h
      first | exact h | exact ⟨h, h⟩ | exact ⟨⟨h, h⟩, h⟩ | exact ⟨h, h, h⟩
    | true =>
      cases hfb : jb.fixed with
      | false =>
        simp -implicitDefEqProofs (disch := (first | omega | (simp only [go_sem] <;> omega) | fail)) only [go_sem, simprocAttr, hB, jointRow_eq, hja, hjb, hx, hfa, hfb]
        simp [hx, hfa, hfb] at h
        first | exact h | exact ⟨h, h⟩ | exact ⟨⟨h, h⟩, h⟩ | exact ⟨h, h, h⟩
      | true =>
        simp -implicitDefEqProofs (disch := (first | omega | (simp only [go_sem] <;> omega) | fail)) only [go_sem, simprocAttr, hB, jointRow_eq, hja, hjb, hx, hfa, hfb]
        simp [hx, hfa, hfb] at h
        first | exact h | exact ⟨h, h⟩ | exact ⟨⟨h, h⟩, h⟩ | exact ⟨h, h, h⟩
end Go.Proofs.Qqz
