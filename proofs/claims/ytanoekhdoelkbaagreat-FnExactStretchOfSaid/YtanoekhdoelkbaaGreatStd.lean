/- Contracts: vectors of members, free joints, loads. -/
import Derived.Test.YtanoekhdoelkbaaGreatStc
set_option linter.unusedSimpArgs false
set_option linter.unusedVariables false
namespace Go.Proofs.Qqz
open Go

/-- What a valid structure's numbers keep to. -/
structure SFacts (v : SV) : Prop where
  nj : v.joints.length ≤ 6
  nm : v.members.length ≤ 8
  j : ∀ i, i < v.joints.length → (-50 ≤ (v.joints.getD i default).x ∧ (v.joints.getD i default).x ≤ 50) ∧ (-50 ≤ (v.joints.getD i default).y ∧ (v.joints.getD i default).y ≤ 50)
  m : ∀ i, i < v.members.length → (0 ≤ (v.members.getD i default).a ∧ (v.members.getD i default).a < v.joints.length) ∧ (0 ≤ (v.members.getD i default).b ∧ (v.members.getD i default).b < v.joints.length) ∧ (1 ≤ (v.members.getD i default).kind ∧ (v.members.getD i default).kind ≤ 3)

theorem sfacts {v : SV} (h : structOkB v = true) : SFacts v := by
  unfold structOkB at h
  simp only [Bool.and_eq_true, decide_eq_true_eq, List.all_eq_true, List.mem_range] at h
  obtain ⟨⟨⟨h1, h2⟩, h3⟩, h4⟩ := h
  refine ⟨h1, h2, fun i hi => ?_, fun i hi => ?_⟩
  · have := h3 i hi
    unfold jOk jointOkB at this
    simp only [Bool.and_eq_true, decide_eq_true_eq] at this
    exact ⟨this.1.1.2, this.1.2⟩
  · have h5 := h4 (v.members.getD i default) (by rw [getD_elem _ _ hi]; exact List.getElem_mem hi)
    unfold memOkB at h5
    simp only [Bool.and_eq_true, decide_eq_true_eq] at h5
    exact ⟨h5.1.1.1, h5.1.1.2, h5.1.2⟩

def vecX (v : SV) (i : Nat) : Int := (v.joints.getD (v.members.getD i default).b.toNat default).x - (v.joints.getD (v.members.getD i default).a.toNat default).x
def vecY (v : SV) (i : Nat) : Int := (v.joints.getD (v.members.getD i default).b.toNat default).y - (v.joints.getD (v.members.getD i default).a.toNat default).y

theorem SFacts.vec {v : SV} (F : SFacts v) {i : Nat} (hi : i < v.members.length) : (-100 ≤ vecX v i ∧ vecX v i ≤ 100) ∧ (-100 ≤ vecY v i ∧ vecY v i ≤ 100) := by
  obtain ⟨ha, hb, _⟩ := F.m i hi
  have h1 := F.j (v.members.getD i default).a.toNat (by omega)
  have h2 := F.j (v.members.getD i default).b.toNat (by omega)
  unfold vecX vecY
  omega

set_option maxRecDepth 100000 in
set_option maxHeartbeats 1000000 in
theorem vector_ok (v : SV) (F : SFacts v) (i : Nat) (hi : i < v.members.length) (k : Nat) (e : Env) (σ : St) (hk : k < σ.n) (hB : σ.h k = .deep 2 (structRows v)) (K : KT) (h : K (.tup [.lit (.int .i64 (vecX v i)), .lit (.int .i64 (vecY v i))]) e σ) :
    ACall Tryz.prog 106 [.ptr k 0 0, .lit (.int .i64 (i : Nat))] e σ K := by
  unfold structRows at hB
  refine ACall.pureW Tryz.func106 rfl Tryz.ntmps106 Tryz.results106 rfl rfl rfl ?_
  obtain ⟨ha, hb, _⟩ := F.m i hi
  have h1 := F.j (v.members.getD i default).a.toNat (by omega)
  have h2 := F.j (v.members.getD i default).b.toNat (by omega)
  have hi' : (i : Int) < v.members.length := by omega
  unfold vecX vecY at h
  obtain ⟨m, hm⟩ : ∃ m, v.members.getD i default = m := ⟨_, rfl⟩
  rw [hm] at h ha hb h1 h2
  simp -implicitDefEqProofs (disch := (first | omega | (simp only [go_sem] <;> omega) | fail)) only [go_sem, simprocAttr, hB, hi', hm, memRow_eq]
  refine Sat.drawn0 [] mixed (by kernel_rfl) ?_
  simp -implicitDefEqProofs (disch := (first | omega | (simp only [go_sem] <;> omega) | fail)) only [go_sem, simprocAttr, hB, hi', hm, memRow_eq, jointRow_eq, wrap_i64]
  exact h

set_option maxRecDepth 100000 in
set_option maxHeartbeats 1000000 in
theorem svector_ok (v : SV) (F : SFacts v) (i : Nat) (hi : i < v.members.length) (e : Env) (σ : St) (K : KT) (h : K (.tup [.lit (.int .i64 (vecX v i)), .lit (.int .i64 (vecY v i))]) e σ) :
    ACall Tryz.prog 45 [structV v, .lit (.int .i64 (i : Nat))] e σ K := by
  unfold structV
  refine ACall.pureW Tryz.func45 rfl Tryz.ntmps45 Tryz.results45 rfl rfl rfl ?_
  obtain ⟨ha, hb, _⟩ := F.m i hi
  have h1 := F.j (v.members.getD i default).a.toNat (by omega)
  have h2 := F.j (v.members.getD i default).b.toNat (by omega)
  have hi' : (i : Int) < v.members.length := by omega
  unfold vecX vecY at h
  obtain ⟨m, hm⟩ : ∃ m, v.members.getD i default = m := ⟨_, rfl⟩
  rw [hm] at h ha hb h1 h2
  simp -implicitDefEqProofs (disch := (first | omega | (simp only [go_sem] <;> omega) | fail)) only [go_sem, simprocAttr, hi', hm, memRow_eq]
  refine Sat.drawn1 10 (Blk.deep 4 [[.lit (.string ⟨#[]⟩), .lit (.int .i64 0), .lit (.int .i64 0), .lit (.bool false)]]) (fun n => .ptr n 0 0) [11] mixed (by kernel_rfl) (by rintro o ⟨⟩ e σ; simp only [List.getElem_toArray, List.getElem_cons_succ, List.getElem_cons_zero]; simp -implicitDefEqProofs (disch := (first | omega | (simp only [go_sem] <;> omega) | fail)) only [go_sem, simprocAttr]) ?_
  simp -implicitDefEqProofs (disch := (first | omega | (simp only [go_sem] <;> omega) | fail)) only [go_sem, simprocAttr, hi', hm, memRow_eq, jointRow_eq]
  refine Sat.drawn1 10 (Blk.deep 4 [[.lit (.string ⟨#[]⟩), .lit (.int .i64 0), .lit (.int .i64 0), .lit (.bool false)]]) (fun n => .ptr n 0 0) [11] mixed (by kernel_rfl) (by rintro o ⟨⟩ e σ; simp only [List.getElem_toArray, List.getElem_cons_succ, List.getElem_cons_zero]; simp -implicitDefEqProofs (disch := (first | omega | (simp only [go_sem] <;> omega) | fail)) only [go_sem, simprocAttr]) ?_
  simp -implicitDefEqProofs (disch := (first | omega | (simp only [go_sem] <;> omega) | fail)) only [go_sem, simprocAttr, hi', hm, memRow_eq, jointRow_eq]
  refine Sat.drawn0 [] mixed (by kernel_rfl) ?_
  simp -implicitDefEqProofs (disch := (first | omega | (simp only [go_sem] <;> omega) | fail)) only [go_sem, simprocAttr, hi', hm, memRow_eq, jointRow_eq, wrap_i64]
  exact h

/-- The joints that are not fixed. -/
def freeN (v : SV) : List Nat := (List.range v.joints.length).filter fun i => !(v.joints.getD i default).fixed
def freeZ (v : SV) : List Int := (freeN v).map fun i : Nat => (i : Int)

def freeTo (v : SV) (i : Nat) : List Int := ((List.range i).filter fun i => !(v.joints.getD i default).fixed).map fun i : Nat => (i : Int)
theorem freeTo_succ_f {v : SV} {i : Nat} (h : (v.joints.getD i default).fixed = false) : freeTo v (i + 1) = freeTo v i ++ [(i : Int)] := by
  simp only [freeTo, List.range_succ, List.filter_append, List.map_append, List.filter_cons, List.filter_nil, h, Bool.not_false, if_true, List.map_cons, List.map_nil]
theorem freeTo_succ_t {v : SV} {i : Nat} (h : (v.joints.getD i default).fixed = true) : freeTo v (i + 1) = freeTo v i := by
  simp only [freeTo, List.range_succ, List.filter_append, List.map_append, List.filter_cons, List.filter_nil, h, Bool.not_true, Bool.false_eq_true, if_false, List.map_nil, List.append_nil]
theorem freeTo_len (v : SV) (i : Nat) : (freeTo v i).length ≤ i := by
  simp only [freeTo, List.length_map]
  exact Nat.le_trans (List.length_filter_le _ _) (by simp)

set_option maxRecDepth 100000 in
set_option maxHeartbeats 1000000 in
theorem sfree_ok (v : SV) (hn : v.joints.length ≤ 2000000) (e : Env) (σ : St) (K : KT) (h : K (ints (freeZ v)) e σ) : ACall Tryz.prog 61 [structV v] e σ K := by
  unfold structV
  refine ACall.pureW Tryz.func61 rfl Tryz.ntmps61 Tryz.results61 rfl rfl rfl ?_
  simp -implicitDefEqProofs (disch := (first | omega | (simp only [go_sem] <;> omega) | fail)) only [go_sem, simprocAttr]
  refine Sat.loopW (fun (t : Nat) e' σ' => ∃ i k, t = v.joints.length - i ∧ i ≤ v.joints.length ∧ e' 3 = .os k 0 (freeTo v i).length ∧ e' 8 = sl jointRow v.joints ∧ e' 9 = .lit (.int .i64 v.joints.length) ∧ e' 10 = .lit (.int .i64 (i : Nat)) ∧ σ.n ≤ k ∧ k < σ'.n ∧ σ'.h k = bl intRow 1 (freeTo v i) ∧ Old σ σ') (fun t => t) v.joints.length rfl ?_ ?_
  · simp -implicitDefEqProofs (disch := (first | omega | (simp only [go_sem] <;> omega) | fail)) only [go_sem, simprocAttr]
    exact ⟨0, σ.n + 1, by omega, by omega, rfl, rfl, by omega, by omega, by simp -implicitDefEqProofs (disch := (first | omega | (simp only [go_sem] <;> omega) | fail)) only [go_sem, simprocAttr]; rfl⟩
  rintro t e1 σ1 ⟨i, k, rfl, hi, h3, h8, h9, h10, hk, hkn, hB, hO⟩
  have hOn := hO.1
  have hlen := freeTo_len v i
  have htk : (freeTo v i).take (freeTo v i).length = freeTo v i := List.take_of_length_le (Nat.le_refl _)
  by_cases hlt : i < v.joints.length
  · have hlt' : (i : Int) < v.joints.length := by omega
    obtain ⟨j, hj⟩ : ∃ j, v.joints.getD i default = j := ⟨_, rfl⟩
    cases hf : j.fixed with
    | true =>
      have hs := freeTo_succ_t (v := v) (i := i) (by rw [hj]; exact hf)
      simp -implicitDefEqProofs (disch := (first | omega | (simp only [go_sem] <;> omega) | fail)) only [go_sem, simprocAttr, h3, h8, h9, h10, hlt', hj, jointRow_eq, hf, wrap_i64]
      refine ⟨v.joints.length - (i + 1), by omega, i + 1, k, rfl, by omega, ?_, rfl, hk, by omega, ?_, by simp -implicitDefEqProofs (disch := (first | omega | (simp only [go_sem] <;> omega) | fail)) only [go_sem, simprocAttr, hO]⟩
      · rw [hs]
      · rw [hs]; simp -implicitDefEqProofs (disch := (first | omega | (simp only [go_sem] <;> omega) | fail)) only [go_sem, simprocAttr, hB]
    | false =>
      have hs := freeTo_succ_f (v := v) (i := i) (by rw [hj]; exact hf)
      simp -implicitDefEqProofs (disch := (first | omega | (simp only [go_sem] <;> omega) | fail)) only [go_sem, simprocAttr, h3, h8, h9, h10, hlt', hj, jointRow_eq, hf, hB, htk, wrap_i64]
      refine ⟨by omega, v.joints.length - (i + 1), by omega, i + 1, σ1.n + 1 + 1, rfl, by omega, by rw [hs]; simp, rfl, by omega, by omega, by rw [hs]; simp -implicitDefEqProofs (disch := (first | omega | (simp only [go_sem] <;> omega) | fail)) only [go_sem, simprocAttr], by simp -implicitDefEqProofs (disch := (first | omega | (simp only [go_sem] <;> omega) | fail)) only [go_sem, simprocAttr, hO]⟩
  · have hlt' : ¬ (i : Int) < v.joints.length := by omega
    have hie : i = v.joints.length := by omega
    subst hie
    simp -implicitDefEqProofs (disch := (first | omega | (simp only [go_sem] <;> omega) | fail)) only [go_sem, simprocAttr, h3, h8, h9, h10, hlt', hB, hO, htk]
    exact h

set_option maxRecDepth 100000 in
set_option maxHeartbeats 1000000 in
theorem free_ok (v : SV) (k0 : Nat) (hn : v.joints.length ≤ 2000000) (e : Env) (σ : St) (hk0 : k0 < σ.n) (hB0 : σ.h k0 = .deep 2 (structRows v)) (K : KT) (h : K (ints (freeZ v)) e σ) : ACall Tryz.prog 65 [.ptr k0 0 0] e σ K := by
  unfold structRows at hB0
  refine ACall.pureW Tryz.func65 rfl Tryz.ntmps65 Tryz.results65 rfl rfl rfl ?_
  simp -implicitDefEqProofs (disch := (first | omega | (simp only [go_sem] <;> omega) | fail)) only [go_sem, simprocAttr, hB0]
  refine Sat.loopW (fun (t : Nat) e' σ' => ∃ i, t = v.joints.length - i ∧ i ≤ v.joints.length ∧ e' 9 = sl jointRow v.joints ∧ e' 10 = .lit (.int .i64 v.joints.length) ∧ e' 11 = .lit (.int .i64 (i : Nat)) ∧ Old σ σ' ∧ ((e' 3 = .lit (.slice none 0 0) ∧ freeTo v i = []) ∨ ∃ k, e' 3 = .os k 0 (freeTo v i).length ∧ σ.n ≤ k ∧ k < σ'.n ∧ σ'.h k = bl intRow 1 (freeTo v i))) (fun t => t) v.joints.length rfl ?_ ?_
  · simp -implicitDefEqProofs (disch := (first | omega | (simp only [go_sem] <;> omega) | fail)) only [go_sem, simprocAttr]
    exact ⟨0, by omega, by omega, rfl, .inl rfl⟩
  rintro t e1 σ1 ⟨i, rfl, hi, h9, h10, h11, hO, hcase⟩
  have hOn := hO.1
  have hlen := freeTo_len v i
  have htk : (freeTo v i).take (freeTo v i).length = freeTo v i := List.take_of_length_le (Nat.le_refl _)
  by_cases hlt : i < v.joints.length
  · have hlt' : (i : Int) < v.joints.length := by omega
    obtain ⟨j, hj⟩ : ∃ j, v.joints.getD i default = j := ⟨_, rfl⟩
    cases hf : j.fixed with
    | true =>
      have hs := freeTo_succ_t (v := v) (i := i) (by rw [hj]; exact hf)
      simp -implicitDefEqProofs (disch := (first | omega | (simp only [go_sem] <;> omega) | fail)) only [go_sem, simprocAttr, h9, h10, h11, hlt', hj, jointRow_eq, hf, wrap_i64]
      refine ⟨v.joints.length - (i + 1), by omega, i + 1, rfl, by omega, rfl, by simp -implicitDefEqProofs (disch := (first | omega | (simp only [go_sem] <;> omega) | fail)) only [go_sem, simprocAttr, hO], ?_⟩
      rw [hs]
      rcases hcase with ⟨h3, hnil⟩ | ⟨k, h3, hk, hkn, hB⟩
      · exact .inl ⟨h3, hnil⟩
      · exact .inr ⟨k, h3, hk, by omega, by simp -implicitDefEqProofs (disch := (first | omega | (simp only [go_sem] <;> omega) | fail)) only [go_sem, simprocAttr, hB]⟩
    | false =>
      have hs := freeTo_succ_f (v := v) (i := i) (by rw [hj]; exact hf)
      rcases hcase with ⟨h3, hnil⟩ | ⟨k, h3, hk, hkn, hB⟩
      · rw [hnil] at hs
        simp -implicitDefEqProofs (disch := (first | omega | (simp only [go_sem] <;> omega) | fail)) only [go_sem, simprocAttr, h3, h9, h10, h11, hlt', hj, jointRow_eq, hf, wrap_i64]
        refine ⟨v.joints.length - (i + 1), by omega, i + 1, rfl, by omega, rfl, by simp -implicitDefEqProofs (disch := (first | omega | (simp only [go_sem] <;> omega) | fail)) only [go_sem, simprocAttr, hO], .inr ?_⟩
        rw [hs]
        exact ⟨σ1.n + 1 + 1, rfl, by omega, by omega, by simp -implicitDefEqProofs (disch := (first | omega | (simp only [go_sem] <;> omega) | fail)) only [go_sem, simprocAttr]; rfl⟩
      · simp -implicitDefEqProofs (disch := (first | omega | (simp only [go_sem] <;> omega) | fail)) only [go_sem, simprocAttr, h3, h9, h10, h11, hlt', hj, jointRow_eq, hf, hB, htk, wrap_i64]
        refine ⟨by omega, v.joints.length - (i + 1), by omega, i + 1, rfl, by omega, rfl, by simp -implicitDefEqProofs (disch := (first | omega | (simp only [go_sem] <;> omega) | fail)) only [go_sem, simprocAttr, hO], .inr ⟨σ1.n + 1 + 1, by rw [hs]; simp, by omega, by omega, by rw [hs]; simp -implicitDefEqProofs (disch := (first | omega | (simp only [go_sem] <;> omega) | fail)) only [go_sem, simprocAttr]⟩⟩
  · have hlt' : ¬ (i : Int) < v.joints.length := by omega
    have hie : i = v.joints.length := by omega
    subst hie
    rcases hcase with ⟨h3, hnil⟩ | ⟨k, h3, hk, hkn, hB⟩
    · have hz : freeZ v = [] := hnil
      rw [hz] at h
      simp -implicitDefEqProofs (disch := (first | omega | (simp only [go_sem] <;> omega) | fail)) only [go_sem, simprocAttr, h3, h9, h10, h11, hlt', hO]
      exact h
    · simp -implicitDefEqProofs (disch := (first | omega | (simp only [go_sem] <;> omega) | fail)) only [go_sem, simprocAttr, h3, h9, h10, h11, hlt', hB, hO, htk]
      exact h
end Go.Proofs.Qqz
