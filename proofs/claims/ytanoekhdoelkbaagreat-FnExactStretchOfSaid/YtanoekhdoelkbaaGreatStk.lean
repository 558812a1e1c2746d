/- Contracts: stretches. -/
import Derived.Test.YtanoekhdoelkbaaGreatStj
set_option linter.unusedSimpArgs false
set_option linter.unusedVariables false
namespace Go.Proofs.Qqz
open Go

def memA (v : SV) (i : Nat) : Nat := (v.members.getD i default).a.toNat
def memB (v : SV) (i : Nat) : Nat := (v.members.getD i default).b.toNat
def apartX (v : SV) (d : List RV) (i : Nat) : Fr := subF (dispX v d (memB v i)) (dispX v d (memA v i))
def apartY (v : SV) (d : List RV) (i : Nat) : Fr := subF (dispY v d (memB v i)) (dispY v d (memA v i))
def stretchF (v : SV) (d : List RV) (i : Nat) : Fr := addF (mulF (wholeF (vecX v i)) (apartX v d i)) (mulF (wholeF (vecY v i)) (apartY v d i))
theorem apartX_ok (v : SV) (d : List RV) (i : Nat) : (apartX v d i).ok := subF_ok (dispX_ok _ _ _) (dispX_ok _ _ _)
theorem apartY_ok (v : SV) (d : List RV) (i : Nat) : (apartY v d i).ok := subF_ok (dispY_ok _ _ _) (dispY_ok _ _ _)
theorem stretchF_ok {v : SV} (F : SFacts v) (d : List RV) {i : Nat} (hi : i < v.members.length) : (stretchF v d i).ok := by
  have := F.vec hi
  exact addF_ok (mulF_ok (whole_small (by omega)) (apartX_ok v d i)) (mulF_ok (whole_small (by omega)) (apartY_ok v d i))

/-- A list that holds the displacements of all joints. -/
def IsDisp (v : SV) (d : List RV) (L : List Fr) : Prop := L.length = 2 * v.joints.length ∧ ∀ j, j < v.joints.length → L.getD (2 * j) default = dispX v d j ∧ L.getD (2 * j + 1) default = dispY v d j

set_option maxRecDepth 100000 in
set_option maxHeartbeats 1000000 in
theorem apart_ok (v : SV) (F : SFacts v) (d : List RV) (L : List Fr) (hL : IsDisp v d L) (i : Nat) (hi : i < v.members.length) (k : Nat) (e : Env) (σ : St) (hk : k < σ.n) (hB : σ.h k = .deep 2 (structRows v)) (K : KT)
    (h : K (.tup [frA (apartX v d i), frA (apartY v d i)]) e σ) : ACall Tryz.prog 117 [.ptr k 0 0, .lit (.int .i64 (i : Nat)), sl frRow L] e σ K := by
  have hB0 := hB
  unfold structRows at hB0
  refine ACall.pureW Tryz.func117 rfl Tryz.ntmps117 Tryz.results117 rfl rfl rfl ?_
  obtain ⟨ha, hb, _⟩ := F.m i hi
  have hnj := F.nj
  have hi' : (i : Int) < v.members.length := by omega
  unfold apartX apartY memA memB at h
  obtain ⟨m, hm⟩ : ∃ m, v.members.getD i default = m := ⟨_, rfl⟩
  rw [hm] at h ha hb
  obtain ⟨a, haa⟩ : ∃ a : Nat, m.a = a := ⟨m.a.toNat, by omega⟩
  obtain ⟨b, hbb⟩ : ∃ b : Nat, m.b = b := ⟨m.b.toNat, by omega⟩
  rw [haa, hbb, Int.toNat_natCast, Int.toNat_natCast] at h
  obtain ⟨g1, g2⟩ := hL.2 a (by omega)
  obtain ⟨g3, g4⟩ := hL.2 b (by omega)
  have hLl := hL.1
  have i1 : (2 * (a : Int)).toNat = 2 * a := by omega
  have i2 : (2 * (a : Int) + 1).toNat = 2 * a + 1 := by omega
  have i3 : (2 * (b : Int)).toNat = 2 * b := by omega
  have i4 : (2 * (b : Int) + 1).toNat = 2 * b + 1 := by omega
  simp -implicitDefEqProofs (disch := (first | omega | (simp only [go_sem] <;> omega) | fail)) only [go_sem, simprocAttr, hB0, hi', hm, memRow_eq]
  refine Sat.drawn0 [] mixed (by kernel_rfl) ?_
  simp -implicitDefEqProofs (disch := (first | omega | (simp only [go_sem] <;> omega) | fail)) only [go_sem, simprocAttr, haa, hbb, i1, i2, i3, i4, wrap_i64, frRow_eq, g1, g2, g3, g4]
  refine exQ.intro (sub_ok (dispX v d b) (dispX v d a) (dispX_ok _ _ _) (dispX_ok _ _ _) _ _ _ ⟨rfl, rfl⟩) ?_
  try simp -implicitDefEqProofs (disch := (first | omega | (simp only [go_sem] <;> omega) | fail)) only [go_sem, simprocAttr]
  refine exQ.intro (sub_ok (dispY v d b) (dispY v d a) (dispY_ok _ _ _) (dispY_ok _ _ _) _ _ _ ⟨rfl, rfl⟩) ?_
  simp -implicitDefEqProofs (disch := (first | omega | (simp only [go_sem] <;> omega) | fail)) only [go_sem, simprocAttr]
  exact h

set_option maxRecDepth 100000 in
set_option maxHeartbeats 1000000 in
theorem stretch_ok (v : SV) (F : SFacts v) (d : List RV) (L : List Fr) (hL : IsDisp v d L) (i : Nat) (hi : i < v.members.length) (k : Nat) (e : Env) (σ : St) (hk : k < σ.n) (hB : σ.h k = .deep 2 (structRows v)) (K : KT)
    (h : K (frA (stretchF v d i)) e σ) : ACall Tryz.prog 73 [.ptr k 0 0, .lit (.int .i64 (i : Nat)), sl frRow L] e σ K := by
  refine ACall.pureW Tryz.func73 rfl Tryz.ntmps73 Tryz.results73 rfl rfl rfl ?_
  have hvec := F.vec hi
  simp -implicitDefEqProofs (disch := (first | omega | (simp only [go_sem] <;> omega) | fail)) only [go_sem, simprocAttr]
  refine callF.plain ?_
  refine ACall.eq_args (l' := [.ptr k 0 0, .lit (.int .i64 (i : Nat))]) (by simp -implicitDefEqProofs (disch := (first | omega | (simp only [go_sem] <;> omega) | fail)) only [go_sem, simprocAttr]) ?_
  refine vector_ok v F i hi k _ _ hk hB _ ?_
  simp -implicitDefEqProofs (disch := (first | omega | (simp only [go_sem] <;> omega) | fail)) only [go_sem, simprocAttr]
  refine callF.plain ?_
  refine ACall.eq_args (l' := [.ptr k 0 0, .lit (.int .i64 (i : Nat)), sl frRow L]) (by simp -implicitDefEqProofs (disch := (first | omega | (simp only [go_sem] <;> omega) | fail)) only [go_sem, simprocAttr]) ?_
  refine apart_ok v F d L hL i hi k _ _ hk hB _ ?_
  simp -implicitDefEqProofs (disch := (first | omega | (simp only [go_sem] <;> omega) | fail)) only [go_sem, simprocAttr]
  refine callF.plain (whole_ok (vecX v i) (by omega) (by omega) _ _ _ ?_)
  simp -implicitDefEqProofs (disch := (first | omega | (simp only [go_sem] <;> omega) | fail)) only [go_sem, simprocAttr]
  refine callF.plain (ACall.eq_args (l' := [frA (wholeF (vecX v i)), frA (apartX v d i)]) (by simp -implicitDefEqProofs (disch := (first | omega | (simp only [go_sem] <;> omega) | fail)) only [go_sem, simprocAttr]) (mul_ok _ _ (whole_small (by omega)) (apartX_ok v d i) _ _ _ ?_))
  simp -implicitDefEqProofs (disch := (first | omega | (simp only [go_sem] <;> omega) | fail)) only [go_sem, simprocAttr]
  refine callF.plain (whole_ok (vecY v i) (by omega) (by omega) _ _ _ ?_)
  simp -implicitDefEqProofs (disch := (first | omega | (simp only [go_sem] <;> omega) | fail)) only [go_sem, simprocAttr]
  refine callF.plain (ACall.eq_args (l' := [frA (wholeF (vecY v i)), frA (apartY v d i)]) (by simp -implicitDefEqProofs (disch := (first | omega | (simp only [go_sem] <;> omega) | fail)) only [go_sem, simprocAttr]) (mul_ok _ _ (whole_small (by omega)) (apartY_ok v d i) _ _ _ ?_))
  simp -implicitDefEqProofs (disch := (first | omega | (simp only [go_sem] <;> omega) | fail)) only [go_sem, simprocAttr]
  refine callF.plain (ACall.eq_args (l' := [frA (mulF (wholeF (vecX v i)) (apartX v d i)), frA (mulF (wholeF (vecY v i)) (apartY v d i))]) (by simp -implicitDefEqProofs (disch := (first | omega | (simp only [go_sem] <;> omega) | fail)) only [go_sem, simprocAttr]) (add_ok _ _ (mulF_ok (whole_small (by omega)) (apartX_ok v d i)) (mulF_ok (whole_small (by omega)) (apartY_ok v d i)) _ _ _ ?_))
  have hst : addF (mulF (wholeF (vecX v i)) (apartX v d i)) (mulF (wholeF (vecY v i)) (apartY v d i)) = stretchF v d i := rfl
  rw [hst]
  simp -implicitDefEqProofs (disch := (first | omega | (simp only [go_sem] <;> omega) | fail)) only [go_sem, simprocAttr]
  exact h

set_option maxRecDepth 100000 in
set_option maxHeartbeats 1000000 in
theorem smoves_ok (v : SV) (d : List RV) (hs : ∀ j ∈ v.joints, j.name.size ≤ 1000000000) (hjn : v.joints.length ≤ 2000000) (hd : d.length ≤ 2000000) (hsh : ∀ r ∈ d, r.short) (e : Env) (σ : St) (K : KT) (h : K (.lit (.bool (movesB v d))) e σ) : ACall Tryz.prog 71 [structV v, sl ratRow d] e σ K := by
  unfold movesB at h
  unfold structV
  refine ACall.pureW Tryz.func71 rfl Tryz.ntmps71 Tryz.results71 rfl rfl rfl ?_
  simp -implicitDefEqProofs (disch := (first | omega | (simp only [go_sem] <;> omega) | fail)) only [go_sem, simprocAttr]
  refine callF.plain (sstructOk_ok v hs _ _ _ ?_)
  cases ho : structOkB v with
  | false =>
    rw [ho] at h
    simp -implicitDefEqProofs (disch := (first | omega | (simp only [go_sem] <;> omega) | fail)) only [go_sem, simprocAttr]
    exact h
  | true =>
    rw [ho] at h
    have F := sfacts ho
    have hnj := F.nj
    have hfl := freeN_len v
    have hfz : (freeZ v).length = (freeN v).length := by simp [freeZ]
    simp -implicitDefEqProofs (disch := (first | omega | (simp only [go_sem] <;> omega) | fail)) only [go_sem, simprocAttr]
    refine callF.plain (sfree_ok v hjn _ _ _ ?_)
    by_cases hc : d.length = 2 * (freeN v).length
    · have hc' : (d.length : Int) = 2 * ((freeN v).length : Int) := by omega
      rw [decide_eq_true hc] at h
      simp -implicitDefEqProofs (disch := (first | omega | (simp only [go_sem] <;> omega) | fail)) only [go_sem, simprocAttr, hfz, hc', wrap_i64]
      refine callF.plain (svalid_ok d hd hsh _ _ _ ?_)
      simp -implicitDefEqProofs (disch := (first | omega | (simp only [go_sem] <;> omega) | fail)) only [go_sem, simprocAttr]
      exact h
    · have hc' : ¬ (d.length : Int) = 2 * ((freeN v).length : Int) := by omega
      rw [decide_eq_false hc] at h
      simp -implicitDefEqProofs (disch := (first | omega | (simp only [go_sem] <;> omega) | fail)) only [go_sem, simprocAttr, hfz, hc', wrap_i64]
      exact h

set_option maxRecDepth 100000 in
set_option maxHeartbeats 1000000 in
theorem sat_ok (v : SV) (hn : v.joints.length ≤ 2000000) (j : Nat) (hj : j < v.joints.length) (e : Env) (σ : St) (K : KT) (h : K (.lit (.int .i64 (if fixedAt v j = true then -1 else (dN v j : Int)))) e σ) : ACall Tryz.prog 130 [structV v, .lit (.int .i64 (j : Nat))] e σ K := by
  unfold structV
  refine ACall.pureW Tryz.func130 rfl Tryz.ntmps130 Tryz.results130 rfl rfl rfl ?_
  simp -implicitDefEqProofs (disch := (first | omega | (simp only [go_sem] <;> omega) | fail)) only [go_sem, simprocAttr]
  refine Sat.loopW (fun (t : Nat) e' σ' => ∃ i, t = v.joints.length - i ∧ i ≤ j ∧ e' 1 = .lit (.int .i64 (j : Nat)) ∧ e' 5 = .lit (.int .i64 (dN v i : Int)) ∧ e' 9 = sl jointRow v.joints ∧ e' 10 = .lit (.int .i64 v.joints.length) ∧ e' 11 = .lit (.int .i64 (i : Nat)) ∧ Old σ σ') (fun t => t) v.joints.length rfl ?_ ?_
  · simp -implicitDefEqProofs (disch := (first | omega | (simp only [go_sem] <;> omega) | fail)) only [go_sem, simprocAttr]
    exact ⟨0, by omega, by omega, rfl, rfl⟩
  rintro t e1 σ1 ⟨i, rfl, hi, h1, h5, h9, h10, h11, hO⟩
  have hOn := hO.1
  have hlt' : (i : Int) < v.joints.length := by omega
  have hdm := dN_mono v (show i ≤ v.joints.length by omega)
  have hda := dN_all v
  have hfl := freeN_len v
  obtain ⟨jv, hjv⟩ : ∃ jv, v.joints.getD i default = jv := ⟨_, rfl⟩
  have hfx : fixedAt v i = jv.fixed := by unfold fixedAt; rw [hjv]
  by_cases hij : i = j
  · subst hij
    rw [hfx] at h
    cases hf : jv.fixed with
    | true =>
      rw [hf, if_pos rfl] at h
      simp -implicitDefEqProofs (disch := (first | omega | (simp only [go_sem] <;> omega) | fail)) only [go_sem, simprocAttr, h1, h5, h9, h10, h11, hlt', hjv, jointRow_eq, hf, hO]
      exact h
    | false =>
      rw [hf, if_neg (by simp)] at h
      simp -implicitDefEqProofs (disch := (first | omega | (simp only [go_sem] <;> omega) | fail)) only [go_sem, simprocAttr, h1, h5, h9, h10, h11, hlt', hjv, jointRow_eq, hf, hO]
      exact h
  · have hij' : ¬ (i : Int) = (j : Int) := by omega
    cases hf : jv.fixed with
    | true =>
      have hd2 := dN_succ_t (v := v) (j := i) (by rw [hfx, hf])
      simp -implicitDefEqProofs (disch := (first | omega | (simp only [go_sem] <;> omega) | fail)) only [go_sem, simprocAttr, h1, h5, h9, h10, h11, hlt', hjv, jointRow_eq, hf, hij', wrap_i64]
      exact ⟨v.joints.length - (i + 1), by omega, i + 1, rfl, by omega, by rw [hd2], rfl, by simp -implicitDefEqProofs (disch := (first | omega | (simp only [go_sem] <;> omega) | fail)) only [go_sem, simprocAttr, hO]⟩
    | false =>
      have hd2 := dN_succ_f (v := v) (j := i) (by rw [hfx, hf])
      simp -implicitDefEqProofs (disch := (first | omega | (simp only [go_sem] <;> omega) | fail)) only [go_sem, simprocAttr, h1, h5, h9, h10, h11, hlt', hjv, jointRow_eq, hf, hij', wrap_i64]
      exact ⟨v.joints.length - (i + 1), by omega, i + 1, rfl, by omega, by rw [hd2]; rfl, rfl, by simp -implicitDefEqProofs (disch := (first | omega | (simp only [go_sem] <;> omega) | fail)) only [go_sem, simprocAttr, hO]⟩

set_option maxRecDepth 100000 in
set_option maxHeartbeats 1000000 in
theorem smove_ok (v : SV) (d : List RV) (hm : movesB v d = true) (j : Nat) (hj : j < v.joints.length) (e : Env) (σ : St) (K : KT) (h : K (.tup [ratV (dispX v d j).rv, ratV (dispY v d j).rv]) e σ) : ACall Tryz.prog 87 [structV v, sl ratRow d, .lit (.int .i64 (j : Nat))] e σ K := by
  obtain ⟨F, hdl, hv⟩ := movesB_facts hm
  have hnj := F.nj
  have hfl := freeN_len v
  unfold structV
  refine ACall.pureW Tryz.func87 rfl Tryz.ntmps87 Tryz.results87 rfl rfl rfl ?_
  unfold dispX dispY at h
  simp -implicitDefEqProofs (disch := (first | omega | (simp only [go_sem] <;> omega) | fail)) only [go_sem, simprocAttr]
  refine callF.plain (sat_ok v (by omega) j hj _ _ _ ?_)
  cases hf : fixedAt v j with
  | true =>
    rw [if_pos rfl]
    rw [if_pos hf, if_pos hf] at h
    simp -implicitDefEqProofs (disch := (first | omega | (simp only [go_sem] <;> omega) | fail)) only [go_sem, simprocAttr]
    refine callF.plain (swhole_ok 0 (by omega) (by omega) _ _ _ ?_)
    unfold ratV
    simp -implicitDefEqProofs (disch := (first | omega | (simp only [go_sem] <;> omega) | fail)) only [go_sem, simprocAttr]
    refine callF.plain (swhole_ok 0 (by omega) (by omega) _ _ _ ?_)
    unfold ratV at h ⊢
    simp -implicitDefEqProofs (disch := (first | omega | (simp only [go_sem] <;> omega) | fail)) only [go_sem, simprocAttr]
    exact h
  | false =>
    rw [if_neg (by simp)]
    rw [if_neg (by rw [hf]; simp), if_neg (by rw [hf]; simp)] at h
    have hlt := dN_lt hj hf
    generalize dN v j = n at *
    have hneg : ¬ (n : Int) < 0 := by omega
    have i1 : (2 * (n : Int)).toNat = 2 * n := by omega
    have i2 : (2 * (n : Int) + 1).toNat = 2 * n + 1 := by omega
    have r1 : d.getD (2 * n) default = (frsOf d (2 * n)).rv := rv_of_fr (by rw [getD_elem d _ (by omega)]; exact hv _ (List.getElem_mem _))
    have r2 : d.getD (2 * n + 1) default = (frsOf d (2 * n + 1)).rv := rv_of_fr (by rw [getD_elem d _ (by omega)]; exact hv _ (List.getElem_mem _))
    simp -implicitDefEqProofs (disch := (first | omega | (simp only [go_sem] <;> omega) | fail)) only [go_sem, simprocAttr, hneg]
    refine Sat.drawnU [11, 12] (.one 11 (.one 12 .leaf)) mixed (by kernel_rfl) ?_
    simp -implicitDefEqProofs (disch := (first | omega | (simp only [go_sem] <;> omega) | fail)) only [go_sem, simprocAttr, i1, i2, wrap_i64, ratRow_eq, r1, r2]
    unfold ratV at h
    exact h

theorem memA_lt {v : SV} (F : SFacts v) {i : Nat} (hi : i < v.members.length) : memA v i < v.joints.length ∧ memB v i < v.joints.length := by
  obtain ⟨ha, hb, _⟩ := F.m i hi
  unfold memA memB
  omega

def stretchV (v : SV) (d : List RV) (i : Int) : AV :=
  if movesB v d = true ∧ 0 ≤ i ∧ i < v.members.length then .tup [ratV (stretchF v d i.toNat).rv, .lit (.bool (stretchF v d i.toNat).isSome)] else .tup [ratV (Fr.rv none), .lit (.bool false)]

set_option maxRecDepth 100000 in
set_option maxHeartbeats 1000000 in
theorem sstretch_ok (v : SV) (d : List RV) (i : Int) (hs : ∀ j ∈ v.joints, j.name.size ≤ 1000000000) (hjn : v.joints.length ≤ 2000000) (hd : d.length ≤ 2000000) (hsh : ∀ r ∈ d, r.short) (e : Env) (σ : St) (K : KT) (h : K (stretchV v d i) e σ) :
    ACall Tryz.prog 34 [structV v, .lit (.int .i64 i), sl ratRow d] e σ K := by
  unfold stretchV at h
  unfold structV
  refine ACall.pureW Tryz.func34 rfl Tryz.ntmps34 Tryz.results34 rfl rfl rfl ?_
  simp -implicitDefEqProofs (disch := (first | omega | (simp only [go_sem] <;> omega) | fail)) only [go_sem, simprocAttr]
  refine callF.plain (smoves_ok v d hs hjn hd hsh _ _ _ ?_)
  cases hm : movesB v d with
  | false =>
    rw [if_neg (by rw [hm]; simp)] at h
    simp only [ratV, Fr.rv] at h
    simp -implicitDefEqProofs (disch := (first | omega | (simp only [go_sem] <;> omega) | fail)) only [go_sem, simprocAttr]
    exact h
  | true =>
    obtain ⟨F, hdl, hv⟩ := movesB_facts hm
    have hnm := F.nm
    simp -implicitDefEqProofs (disch := (first | omega | (simp only [go_sem] <;> omega) | fail)) only [go_sem, simprocAttr, wrap_i64]
    refine callF.plain (sin_ok _ _ _ _ _ _ ?_)
    by_cases hr : ¬ (0 ≤ i ∧ i < v.members.length)
    · have hb : (decide (0 ≤ i) && decide (i ≤ (v.members.length : Int) - 1)) = false := by simp; omega
      rw [if_neg (fun h => hr h.2)] at h
      rw [hb]
      simp only [ratV, Fr.rv] at h
      simp -implicitDefEqProofs (disch := (first | omega | (simp only [go_sem] <;> omega) | fail)) only [go_sem, simprocAttr]
      exact h
    have hr := Decidable.not_not.1 hr
    have hb : (decide (0 ≤ i) && decide (i ≤ (v.members.length : Int) - 1)) = true := by simp; omega
    rw [if_pos ⟨hm, hr⟩] at h
    rw [hb]
    obtain ⟨n, rfl⟩ : ∃ n : Nat, i = n := ⟨i.toNat, by omega⟩
    rw [Int.toNat_natCast] at h
    have hn : n < v.members.length := by omega
    have hn' : (n : Int) < v.members.length := by omega
    have hvec := F.vec hn
    obtain ⟨la, lb⟩ := memA_lt F hn
    obtain ⟨ha, hbb, _⟩ := F.m n hn
    have hsto := stretchF_ok F d hn
    obtain ⟨m, hme⟩ : ∃ m, v.members.getD n default = m := ⟨_, rfl⟩
    have ea : m.a = (memA v n : Int) := by unfold memA; rw [hme] at ha ⊢; omega
    have eb : m.b = (memB v n : Int) := by unfold memB; rw [hme] at hbb ⊢; omega
    have hzero : σ.n + 1 < σ.n + 1 + 1 := by omega
    simp -implicitDefEqProofs (disch := (first | omega | (simp only [go_sem] <;> omega) | fail)) only [go_sem, simprocAttr]
    refine callF.plain (svector_ok v F n hn _ _ _ ?_)
    simp -implicitDefEqProofs (disch := (first | omega | (simp only [go_sem] <;> omega) | fail)) only [go_sem, simprocAttr]
    have tA := dispX_ok v d (memA v n)
    have tB := dispY_ok v d (memA v n)
    have tC := dispX_ok v d (memB v n)
    have tD := dispY_ok v d (memB v n)
    obtain ⟨ax, hax⟩ : ∃ x, dispX v d (memA v n) = x := ⟨_, rfl⟩
    obtain ⟨ay, hay⟩ : ∃ x, dispY v d (memA v n) = x := ⟨_, rfl⟩
    obtain ⟨bx, hbx⟩ : ∃ x, dispX v d (memB v n) = x := ⟨_, rfl⟩
    obtain ⟨bY, hby⟩ : ∃ x, dispY v d (memB v n) = x := ⟨_, rfl⟩
    refine Sat.mono (Q := fun xt e' σ' => xt = .normal ∧ ∃ p q, e' 1 = .lit (.int .i64 (n : Nat)) ∧ e' 2 = sl ratRow d ∧ e' 3 = .ptr σ.n 0 0 ∧ e' 6 = .ptr (σ.n + 1) 0 0 ∧ e' 8 = .lit (.int .i64 (vecX v n)) ∧ e' 9 = .lit (.int .i64 (vecY v n)) ∧ e' 10 = .ptr p 0 0 ∧ e' 11 = .ptr q 0 0 ∧
      σ.n + 1 < p ∧ σ.n + 1 < q ∧ p < σ'.n ∧ q < σ'.n ∧ σ'.h p = .deep 3 [ratRow ax.rv] ∧ σ'.h q = .deep 3 [ratRow ay.rv] ∧ σ'.h σ.n = .deep 2 (structRows v) ∧ σ'.h (σ.n + 1) = .deep 3 [[.lit (.bool false), .lit (.slice none 0 0), .lit (.slice none 0 0)]] ∧ Old σ σ') ?_ ?_
    · refine Sat.drawnT [12, 13, 14, 15] (.two 12 (.one 13 (.one 14 (.one 15 .leaf))) 13 (.one 12 (.one 14 (.one 15 .leaf)))) mixed (by kernel_rfl) ?_
      simp -implicitDefEqProofs (disch := (first | omega | (simp only [go_sem] <;> omega) | fail)) only [go_sem, simprocAttr, hn', hme, memRow_eq, ea]
      refine exQ.intro (fun n' hh => smove_ok v d hm (memA v n) la _ _ _ ⟨rfl, rfl⟩) ?_
      rw [hax, hay]
      unfold ratV
      simp -implicitDefEqProofs (disch := (first | omega | (simp only [go_sem] <;> omega) | fail)) only [go_sem, simprocAttr]
      exact ⟨⟨_, _, rfl, rfl, by omega, by omega, by omega, by omega, by simp -implicitDefEqProofs (disch := (first | omega | (simp only [go_sem] <;> omega) | fail)) only [go_sem, simprocAttr]; rfl, by simp -implicitDefEqProofs (disch := (first | omega | (simp only [go_sem] <;> omega) | fail)) only [go_sem, simprocAttr]; rfl, rfl⟩, ⟨_, _, rfl, rfl, by omega, by omega, by omega, by omega, by simp -implicitDefEqProofs (disch := (first | omega | (simp only [go_sem] <;> omega) | fail)) only [go_sem, simprocAttr]; rfl, by simp -implicitDefEqProofs (disch := (first | omega | (simp only [go_sem] <;> omega) | fail)) only [go_sem, simprocAttr]; rfl, rfl⟩⟩
    rintro xt e1 σ1 ⟨rfl, p, q, g1, g2, g3, g6, g8, g9, g10, g11, hp0, hq0, hp, hq, hBp, hBq, hBs, hBr, hO⟩
    have hBs' := hBs
    unfold structRows at hBs'
    simp -implicitDefEqProofs (disch := (first | omega | (simp only [go_sem] <;> omega) | fail)) only [go_sem, simprocAttr]
    refine Sat.mono (Q := fun xt e' σ' => xt = .normal ∧ ∃ p' q', e' 3 = .ptr σ.n 0 0 ∧ e' 6 = .ptr (σ.n + 1) 0 0 ∧ e' 8 = .lit (.int .i64 (vecX v n)) ∧ e' 9 = .lit (.int .i64 (vecY v n)) ∧ e' 10 = .ptr p 0 0 ∧ e' 11 = .ptr q 0 0 ∧ e' 12 = .ptr p' 0 0 ∧ e' 13 = .ptr q' 0 0 ∧
      p' < σ'.n ∧ q' < σ'.n ∧ p < σ'.n ∧ q < σ'.n ∧ σ.n + 1 < p' ∧ σ.n + 1 < q' ∧ σ'.h p = .deep 3 [ratRow ax.rv] ∧ σ'.h q = .deep 3 [ratRow ay.rv] ∧ σ'.h p' = .deep 3 [ratRow bx.rv] ∧ σ'.h q' = .deep 3 [ratRow bY.rv] ∧ σ'.h (σ.n + 1) = .deep 3 [[.lit (.bool false), .lit (.slice none 0 0), .lit (.slice none 0 0)]] ∧ Old σ σ') ?_ ?_
    · refine Sat.drawnT [12, 13, 14, 15] (.two 12 (.one 13 (.one 14 (.one 15 .leaf))) 13 (.one 12 (.one 14 (.one 15 .leaf)))) mixed (by kernel_rfl) ?_
      simp -implicitDefEqProofs (disch := (first | omega | (simp only [go_sem] <;> omega) | fail)) only [go_sem, simprocAttr, g1, g2, g3, g6, g8, g9, g10, g11, hBs', hn', hme, memRow_eq, eb]
      refine exQ.intro (fun n' hh => smove_ok v d hm (memB v n) lb _ _ _ ⟨rfl, rfl⟩) ?_
      rw [hbx, hby]
      unfold ratV
      simp -implicitDefEqProofs (disch := (first | omega | (simp only [go_sem] <;> omega) | fail)) only [go_sem, simprocAttr, g1, g2, g3, g6, g8, g9, g10, g11]
      exact ⟨⟨_, _, rfl, rfl, by omega, by omega, by omega, by omega, by omega, by omega, hBp, hBq, by simp -implicitDefEqProofs (disch := (first | omega | (simp only [go_sem] <;> omega) | fail)) only [go_sem, simprocAttr]; rfl, by simp -implicitDefEqProofs (disch := (first | omega | (simp only [go_sem] <;> omega) | fail)) only [go_sem, simprocAttr]; rfl, hBr, hO⟩, ⟨_, _, rfl, rfl, by omega, by omega, by omega, by omega, by omega, by omega, hBp, hBq, by simp -implicitDefEqProofs (disch := (first | omega | (simp only [go_sem] <;> omega) | fail)) only [go_sem, simprocAttr]; rfl, by simp -implicitDefEqProofs (disch := (first | omega | (simp only [go_sem] <;> omega) | fail)) only [go_sem, simprocAttr]; rfl, hBr, hO⟩⟩
    rintro xt e2 σ2 ⟨rfl, p', q', k3, k6, k8, k9, k10, k11, k12, k13, hp', hq', hp, hq, hp0', hq0', hBp, hBq, hBp', hBq', hBr, hO⟩
    rw [ratRow_eq] at hBp hBq hBp' hBq'
    simp -implicitDefEqProofs (disch := (first | omega | (simp only [go_sem] <;> omega) | fail)) only [go_sem, simprocAttr]
    refine Sat.drawn1 13 (Blk.deep 3 [[.lit (.bool false), .lit (.slice none 0 0), .lit (.slice none 0 0)]]) (fun n => .ptr n 0 0) [14] mixed (by kernel_rfl) (by rintro o ⟨⟩ e σ; simp only [List.getElem_toArray, List.getElem_cons_succ, List.getElem_cons_zero]; simp -implicitDefEqProofs (disch := (first | omega | (simp only [go_sem] <;> omega) | fail)) only [go_sem, simprocAttr]) ?_
    simp -implicitDefEqProofs (disch := (first | omega | (simp only [go_sem] <;> omega) | fail)) only [go_sem, simprocAttr, k3, k6, k8, k9, k10, k11, k12, k13, hBp, hBq, hBp', hBq']
    refine exQ.intro ⟨swhole_ok (vecX v n) (by omega) (by omega) _ _ _ ⟨rfl, rfl⟩, swhole_ok (vecX v n) (by omega) (by omega) _ _ _ ⟨rfl, rfl⟩⟩ ?_
    try simp -implicitDefEqProofs (disch := (first | omega | (simp only [go_sem] <;> omega) | fail)) only [go_sem, simprocAttr]
    refine exQ.intro ⟨sratSub_ok bx ax (hbx ▸ tC) (hax ▸ tA) _ _ _ ⟨rfl, rfl⟩, sratSub_ok bx ax (hbx ▸ tC) (hax ▸ tA) _ _ _ ⟨rfl, rfl⟩⟩ ?_
    try simp -implicitDefEqProofs (disch := (first | omega | (simp only [go_sem] <;> omega) | fail)) only [go_sem, simprocAttr]
    refine exQ.intro ⟨sratMul_ok (wholeF (vecX v n)) (subF bx ax) (whole_small (by omega)) (subF_ok (hbx ▸ tC) (hax ▸ tA)) _ _ _ ⟨rfl, rfl⟩, sratMul_ok (wholeF (vecX v n)) (subF bx ax) (whole_small (by omega)) (subF_ok (hbx ▸ tC) (hax ▸ tA)) _ _ _ ⟨rfl, rfl⟩⟩ ?_
    try simp -implicitDefEqProofs (disch := (first | omega | (simp only [go_sem] <;> omega) | fail)) only [go_sem, simprocAttr]
    refine exQ.intro ⟨swhole_ok (vecY v n) (by omega) (by omega) _ _ _ ⟨rfl, rfl⟩, swhole_ok (vecY v n) (by omega) (by omega) _ _ _ ⟨rfl, rfl⟩⟩ ?_
    try simp -implicitDefEqProofs (disch := (first | omega | (simp only [go_sem] <;> omega) | fail)) only [go_sem, simprocAttr]
    refine exQ.intro ⟨sratSub_ok bY ay (hby ▸ tD) (hay ▸ tB) _ _ _ ⟨rfl, rfl⟩, sratSub_ok bY ay (hby ▸ tD) (hay ▸ tB) _ _ _ ⟨rfl, rfl⟩⟩ ?_
    try simp -implicitDefEqProofs (disch := (first | omega | (simp only [go_sem] <;> omega) | fail)) only [go_sem, simprocAttr]
    refine exQ.intro ⟨sratMul_ok (wholeF (vecY v n)) (subF bY ay) (whole_small (by omega)) (subF_ok (hby ▸ tD) (hay ▸ tB)) _ _ _ ⟨rfl, rfl⟩, sratMul_ok (wholeF (vecY v n)) (subF bY ay) (whole_small (by omega)) (subF_ok (hby ▸ tD) (hay ▸ tB)) _ _ _ ⟨rfl, rfl⟩⟩ ?_
    try simp -implicitDefEqProofs (disch := (first | omega | (simp only [go_sem] <;> omega) | fail)) only [go_sem, simprocAttr]
    refine exQ.intro ⟨sratAdd_ok (mulF (wholeF (vecX v n)) (subF bx ax)) (mulF (wholeF (vecY v n)) (subF bY ay)) (mulF_ok (whole_small (by omega)) (subF_ok (hbx ▸ tC) (hax ▸ tA))) (mulF_ok (whole_small (by omega)) (subF_ok (hby ▸ tD) (hay ▸ tB))) _ _ _ ⟨rfl, rfl⟩, sratAdd_ok (mulF (wholeF (vecX v n)) (subF bx ax)) (mulF (wholeF (vecY v n)) (subF bY ay)) (mulF_ok (whole_small (by omega)) (subF_ok (hbx ▸ tC) (hax ▸ tA))) (mulF_ok (whole_small (by omega)) (subF_ok (hby ▸ tD) (hay ▸ tB))) _ _ _ ⟨rfl, rfl⟩⟩ ?_
    try simp -implicitDefEqProofs (disch := (first | omega | (simp only [go_sem] <;> omega) | fail)) only [go_sem, simprocAttr]
    have hst : addF (mulF (wholeF (vecX v n)) (subF bx ax)) (mulF (wholeF (vecY v n)) (subF bY ay)) = stretchF v d n := by
      unfold stretchF apartX apartY; rw [hax, hay, hbx, hby]
    rw [hst]
    obtain ⟨f, hf⟩ : ∃ f, stretchF v d n = f := ⟨_, rfl⟩
    rw [hf] at h hsto ⊢
    have lf := rv_lens hsto
    unfold ratV
    simp -implicitDefEqProofs (disch := (first | omega | (simp only [go_sem] <;> omega) | fail)) only [go_sem, simprocAttr]
    refine Sat.drawn0 [3] mixed (by kernel_rfl) ?_
    simp -implicitDefEqProofs (disch := (first | omega | (simp only [go_sem] <;> omega) | fail)) only [go_sem, simprocAttr, k6, hBr]
    refine exQ.intro (sratOk_ok f.rv (by omega) (by omega) _ _ _ ⟨rfl, rfl⟩) ?_
    rw [okB_fr hsto]
    unfold ratV at h
    simp -implicitDefEqProofs (disch := (first | omega | (simp only [go_sem] <;> omega) | fail)) only [go_sem, simprocAttr, k6, hBr, hO]
    exact h
end Go.Proofs.Qqz
