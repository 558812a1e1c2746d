/- Contracts: balance, on both sides. -/
import Derived.Test.YtanoekhdoelkbaaGreatStg
set_option linter.unusedSimpArgs false
set_option linter.unusedVariables false
namespace Go.Proofs.Qqz
open Go

/-- A fraction that is one, and nought. -/
def zeroB (x : Fr) : Bool := match x with | some (n, _) => decide (n = 0) | none => false
theorem sgnZ_zero (n : Int) : sgnZ n = 0 ↔ n = 0 := by
  unfold sgnZ; split
  · simp [*]
  · split <;> simp <;> omega
theorem zeroB_eq (x : Fr) : zeroB x = (x.isSome && decide (sgnF x = 0)) := by
  match x with
  | none => rfl
  | some (n, d) => simp [zeroB, sgnF, sgnZ_zero]

set_option maxRecDepth 100000 in
set_option maxHeartbeats 1000000 in
theorem isZero_ok (x : Fr) (e : Env) (σ : St) (K : KT) (h : K (.lit (.bool (zeroB x))) e σ) : ACall Tryz.prog 66 [frA x] e σ K := by
  refine ACall.pureW Tryz.func66 rfl Tryz.ntmps66 Tryz.results66 rfl rfl rfl ?_
  match x, h with
  | none, h =>
    simp only [frA]
    simp -implicitDefEqProofs (disch := (first | omega | (simp only [go_sem] <;> omega) | fail)) only [go_sem, simprocAttr]
    exact h
  | some (n, d), h =>
    simp only [frA, ratP]
    simp -implicitDefEqProofs (disch := (first | omega | (simp only [go_sem] <;> omega) | fail)) only [go_sem, simprocAttr]
    refine callF.plain (ratSign_ok n d _ _ _ ?_)
    simp only [zeroB] at h
    by_cases hz : n = 0
    · have hz' : sgnZ n = 0 := (sgnZ_zero n).2 hz
      rw [decide_eq_true hz] at h
      simp -implicitDefEqProofs (disch := (first | omega | (simp only [go_sem] <;> omega) | fail)) only [go_sem, simprocAttr, hz']
      exact h
    · have hz' : ¬ sgnZ n = 0 := fun h => hz ((sgnZ_zero n).1 h)
      rw [decide_eq_false hz] at h
      simp -implicitDefEqProofs (disch := (first | omega | (simp only [go_sem] <;> omega) | fail)) only [go_sem, simprocAttr, hz']
      exact h

def sumX (v : SV) (q : List RV) (l : List Int) (i : Nat) : Fr := addF (pullF v (frsOf q) i).1 (wholeF (l.getD (2 * i) 0))
def sumY (v : SV) (q : List RV) (l : List Int) (i : Nat) : Fr := addF (pullF v (frsOf q) i).2 (wholeF (l.getD (2 * i + 1) 0))
def balAt (v : SV) (q : List RV) (l : List Int) (i : Nat) : Bool := zeroB (sumX v q l i) && zeroB (sumY v q l i)
def balB (v : SV) (l : List Int) (q : List RV) : Bool := densB v q && loadOkB v l && (freeN v).all (balAt v q l)

theorem freeN_lt {v : SV} {i : Nat} (h : i ∈ freeN v) : i < v.joints.length := by
  unfold freeN at h
  exact List.mem_range.1 (List.mem_filter.1 h).1
theorem freeN_len (v : SV) : (freeN v).length ≤ v.joints.length := Nat.le_trans (List.length_filter_le _ _) (by simp)
theorem freeZ_getD {v : SV} {i : Nat} (h : i < (freeN v).length) : (freeZ v).getD i 0 = ((freeN v)[i] : Int) := by
  rw [getD_elem _ i (by simpa [freeZ] using h)]
  simp [freeZ]
theorem loadOkB_facts {v : SV} {l : List Int} (h : loadOkB v l = true) : l.length = 2 * v.joints.length ∧ ∀ i, -100 ≤ l.getD i 0 ∧ l.getD i 0 ≤ 100 := by
  unfold loadOkB at h
  simp only [Bool.and_eq_true, decide_eq_true_eq, List.all_eq_true] at h
  refine ⟨h.1, fun i => ?_⟩
  by_cases hi : i < l.length
  · have := h.2 _ (List.getElem_mem hi)
    unfold forceB at this
    simp only [Bool.and_eq_true, decide_eq_true_eq] at this
    rw [getD_elem _ _ hi]; exact this
  · simp [List.getD, List.getElem?_eq_none (Nat.le_of_not_lt hi)]

theorem pullF_ok {v : SV} (F : SFacts v) (q : List RV) (joint : Int) : (pullF v (frsOf q) joint).1.ok ∧ (pullF v (frsOf q) joint).2.ok :=
  pullTo_ok F (fun i _ => fr_ok _) joint _ (Nat.le_refl _)

set_option maxRecDepth 100000 in
set_option maxHeartbeats 1000000 in
theorem isBalanced_ok (v : SV) (l : List Int) (q : List RV) (hs : ∀ j ∈ v.joints, j.name.size ≤ 1000000000) (hjn : v.joints.length ≤ 2000000) (hq : q.length ≤ 2000000) (hl : l.length ≤ 1000000000) (e : Env) (σ : St) (K : KT) (h : K (.lit (.bool (balB v l q))) e σ) :
    ACall Tryz.prog 23 [structV v, ints l, sl ratRow q] e σ K := by
  unfold structV
  unfold balB at h
  refine ACall.pureW Tryz.func23 rfl Tryz.ntmps23 Tryz.results23 rfl rfl rfl ?_
  simp -implicitDefEqProofs (disch := (first | omega | (simp only [go_sem] <;> omega) | fail)) only [go_sem, simprocAttr]
  refine callF.plain ?_
  refine ACall.eq_args (l' := [.ptr σ.n 0 0, sl ratRow q]) (by simp -implicitDefEqProofs (disch := (first | omega | (simp only [go_sem] <;> omega) | fail)) only [go_sem, simprocAttr]) ?_
  refine densities_ok v q hs hq σ.n _ _ (by simp -implicitDefEqProofs (disch := (first | omega | (simp only [go_sem] <;> omega) | fail)) only [go_sem, simprocAttr]; omega) (by simp -implicitDefEqProofs (disch := (first | omega | (simp only [go_sem] <;> omega) | fail)) only [go_sem, simprocAttr]; rfl) _ ?_
  cases hd : densB v q with
  | false =>
    rw [hd] at h
    simp -implicitDefEqProofs (disch := (first | omega | (simp only [go_sem] <;> omega) | fail)) only [go_sem, simprocAttr]
    exact h
  | true =>
    rw [hd] at h
    obtain ⟨F, hlq, hv⟩ := densB_facts hd
    simp -implicitDefEqProofs (disch := (first | omega | (simp only [go_sem] <;> omega) | fail)) only [go_sem, simprocAttr]
    refine callF.plain ?_
    refine ACall.eq_args (l' := [.ptr σ.n 0 0, ints l]) (by simp -implicitDefEqProofs (disch := (first | omega | (simp only [go_sem] <;> omega) | fail)) only [go_sem, simprocAttr]) ?_
    refine fitsLoad_ok v l (by omega) hl σ.n _ _ (by simp -implicitDefEqProofs (disch := (first | omega | (simp only [go_sem] <;> omega) | fail)) only [go_sem, simprocAttr]; omega) (by simp -implicitDefEqProofs (disch := (first | omega | (simp only [go_sem] <;> omega) | fail)) only [go_sem, simprocAttr]; rfl) _ ?_
    cases hlo : loadOkB v l with
    | false =>
      rw [hlo] at h
      simp -implicitDefEqProofs (disch := (first | omega | (simp only [go_sem] <;> omega) | fail)) only [go_sem, simprocAttr]
      exact h
    | true =>
      rw [hlo] at h
      obtain ⟨hll, hlb⟩ := loadOkB_facts hlo
      simp -implicitDefEqProofs (disch := (first | omega | (simp only [go_sem] <;> omega) | fail)) only [go_sem, simprocAttr]
      refine callF.plain ?_
      refine ACall.eq_args (l' := [.ptr σ.n 0 0]) (by simp -implicitDefEqProofs (disch := (first | omega | (simp only [go_sem] <;> omega) | fail)) only [go_sem, simprocAttr]) ?_
      refine free_ok v σ.n hjn _ _ (by simp -implicitDefEqProofs (disch := (first | omega | (simp only [go_sem] <;> omega) | fail)) only [go_sem, simprocAttr]; omega) (by simp -implicitDefEqProofs (disch := (first | omega | (simp only [go_sem] <;> omega) | fail)) only [go_sem, simprocAttr]; rfl) _ ?_
      have hnj := F.nj
      have hfl := freeN_len v
      have hfz : (freeZ v).length = (freeN v).length := by simp [freeZ]
      simp -implicitDefEqProofs (disch := (first | omega | (simp only [go_sem] <;> omega) | fail)) only [go_sem, simprocAttr, hfz]
      refine Sat.loopW (fun (t : Nat) e' σ' => ∃ i, t = (freeN v).length - i ∧ i ≤ (freeN v).length ∧ e' 1 = ints l ∧ e' 3 = .ptr σ.n 0 0 ∧ e' 7 = sl frRow (q.map RV.fr) ∧ e' 25 = ints (freeZ v) ∧ e' 26 = .lit (.int .i64 (freeN v).length) ∧ e' 27 = .lit (.int .i64 (i : Nat)) ∧
        σ'.h σ.n = .deep 2 (structRows v) ∧ σ.n < σ'.n ∧ Old σ σ' ∧ ((freeN v).take i).all (balAt v q l) = true) (fun t => t) (freeN v).length rfl ?_ ?_
      · simp -implicitDefEqProofs (disch := (first | omega | (simp only [go_sem] <;> omega) | fail)) only [go_sem, simprocAttr, hfz]
        exact ⟨0, by omega, by omega, rfl, rfl, by omega, by simp⟩
      rintro t e1 σ1 ⟨i, rfl, hi, h1, h3, h7, h25, h26, h27, hB, hn, hO, hA⟩
      by_cases hlt : i < (freeN v).length
      · have hlt' : (i : Int) < (freeN v).length := by omega
        have hlz : (i : Int) < (freeZ v).length := by omega
        have hgz := freeZ_getD hlt
        obtain ⟨j, hj⟩ : ∃ j, (freeN v)[i] = j := ⟨_, rfl⟩
        have hjl : j < v.joints.length := by rw [← hj]; exact freeN_lt (List.getElem_mem hlt)
        rw [hj] at hgz
        have i1 : (2 * (j : Int)).toNat = 2 * j := by omega
        have i2 : (2 * (j : Int) + 1).toNat = 2 * j + 1 := by omega
        have hp := pullF_ok F q (j : Int)
        have hb1 := hlb (2 * j)
        have hb2 := hlb (2 * j + 1)
        simp -implicitDefEqProofs (disch := (first | omega | (simp only [go_sem] <;> omega) | fail)) only [go_sem, simprocAttr, h1, h3, h7, h25, h26, h27, hlt', hlz, getD_int, hgz]
        refine callF.plain ?_
        refine ACall.eq_args (l' := [.ptr σ.n 0 0, sl frRow (q.map RV.fr), .lit (.int .i64 (j : Int))]) (by simp -implicitDefEqProofs (disch := (first | omega | (simp only [go_sem] <;> omega) | fail)) only [go_sem, simprocAttr]) ?_
        refine pull_ok v F (q.map RV.fr) (by simpa using hlq) (fun x hx => by obtain ⟨r, _, rfl⟩ := List.mem_map.1 hx; exact fr_ok r) (j : Int) σ.n _ _ (by first | omega | (simp -implicitDefEqProofs (disch := (first | omega | (simp only [go_sem] <;> omega) | fail)) only [go_sem, simprocAttr]; omega)) (by first | exact hB | simp -implicitDefEqProofs (disch := (first | omega | (simp only [go_sem] <;> omega) | fail)) only [go_sem, simprocAttr, hB]) _ ?_
        rw [frsOf_eq]
        simp -implicitDefEqProofs (disch := (first | omega | (simp only [go_sem] <;> omega) | fail)) only [go_sem, simprocAttr, h1, h3, h7, h25, h26, h27, i1, wrap_i64, getD_int]
        refine callF.plain (whole_ok (l.getD (2 * j) 0) (by omega) (by omega) _ _ _ ?_)
        simp -implicitDefEqProofs (disch := (first | omega | (simp only [go_sem] <;> omega) | fail)) only [go_sem, simprocAttr, h1, h3, h7, h25, h26, h27]
        refine callF.plain (ACall.eq_args (l' := [frA _, frA _]) (by simp -implicitDefEqProofs (disch := (first | omega | (simp only [go_sem] <;> omega) | fail)) only [go_sem, simprocAttr]) (add_ok _ (wholeF (l.getD (2 * j) 0)) hp.1 (whole_small (by omega)) _ _ _ ?_))
        simp -implicitDefEqProofs (disch := (first | omega | (simp only [go_sem] <;> omega) | fail)) only [go_sem, simprocAttr, h1, h3, h7, h25, h26, h27]
        have hbal : balAt v q l j = (zeroB (sumX v q l j) && zeroB (sumY v q l j)) := rfl
        have hsx : addF (pullF v (frsOf q) (j : Int)).1 (wholeF (l.getD (2 * j) 0)) = sumX v q l j := rfl
        have hsy : addF (pullF v (frsOf q) (j : Int)).2 (wholeF (l.getD (2 * j + 1) 0)) = sumY v q l j := rfl
        rw [hsx]
        refine callF.plain (ACall.eq_args (l' := [frA (sumX v q l j)]) (by simp -implicitDefEqProofs (disch := (first | omega | (simp only [go_sem] <;> omega) | fail)) only [go_sem, simprocAttr]) (isZero_ok _ _ _ _ ?_))
        cases hzx : zeroB (sumX v q l j) with
        | false =>
          have hbad : (freeN v).all (balAt v q l) = false := all_not hlt (by rw [hj, hbal, hzx]; rfl)
          rw [hbad] at h
          simp -implicitDefEqProofs (disch := (first | omega | (simp only [go_sem] <;> omega) | fail)) only [go_sem, simprocAttr, hO]
          exact h
        | true =>
          simp -implicitDefEqProofs (disch := (first | omega | (simp only [go_sem] <;> omega) | fail)) only [go_sem, simprocAttr, h1, h3, h7, h25, h26, h27, i2, wrap_i64, getD_int]
          refine callF.plain (whole_ok (l.getD (2 * j + 1) 0) (by omega) (by omega) _ _ _ ?_)
          simp -implicitDefEqProofs (disch := (first | omega | (simp only [go_sem] <;> omega) | fail)) only [go_sem, simprocAttr, h1, h3, h7, h25, h26, h27]
          refine callF.plain (ACall.eq_args (l' := [frA _, frA _]) (by simp -implicitDefEqProofs (disch := (first | omega | (simp only [go_sem] <;> omega) | fail)) only [go_sem, simprocAttr]) (add_ok _ (wholeF (l.getD (2 * j + 1) 0)) hp.2 (whole_small (by omega)) _ _ _ ?_))
          simp -implicitDefEqProofs (disch := (first | omega | (simp only [go_sem] <;> omega) | fail)) only [go_sem, simprocAttr, h1, h3, h7, h25, h26, h27]
          rw [hsy]
          refine callF.plain (ACall.eq_args (l' := [frA (sumY v q l j)]) (by simp -implicitDefEqProofs (disch := (first | omega | (simp only [go_sem] <;> omega) | fail)) only [go_sem, simprocAttr]) (isZero_ok _ _ _ _ ?_))
          cases hzy : zeroB (sumY v q l j) with
          | false =>
            have hbad : (freeN v).all (balAt v q l) = false := all_not hlt (by rw [hj, hbal, hzx, hzy]; rfl)
            rw [hbad] at h
            simp -implicitDefEqProofs (disch := (first | omega | (simp only [go_sem] <;> omega) | fail)) only [go_sem, simprocAttr, hO]
            exact h
          | true =>
            simp -implicitDefEqProofs (disch := (first | omega | (simp only [go_sem] <;> omega) | fail)) only [go_sem, simprocAttr, h1, h3, h7, h25, h26, h27, wrap_i64]
            exact ⟨(freeN v).length - (i + 1), by omega, i + 1, rfl, by omega, rfl, hB, by omega, hO, all_take_succ hlt hA (by rw [hj, hbal, hzx, hzy]; rfl)⟩
      · have hlt' : ¬ (i : Int) < (freeN v).length := by omega
        have hie : i = (freeN v).length := by omega
        subst hie
        rw [List.take_of_length_le (Nat.le_refl _)] at hA
        rw [hA] at h
        simp -implicitDefEqProofs (disch := (first | omega | (simp only [go_sem] <;> omega) | fail)) only [go_sem, simprocAttr, h1, h3, h7, h25, h26, h27, hlt', hO]
        exact h

def forceV (v : SV) (q : List RV) (l : List Int) (i : Nat) : AV :=
  if (pullF v (frsOf q) i).1.isSome = true ∧ (pullF v (frsOf q) i).2.isSome = true
  then .tup [sl ratRow [(sumX v q l i).rv, (sumY v q l i).rv], .lit (.bool ((sumX v q l i).isSome && (sumY v q l i).isSome))] else .tup [.ps [], .lit (.bool false)]

set_option maxRecDepth 100000 in
set_option maxHeartbeats 1000000 in
theorem sforce_ok (v : SV) (l : List Int) (q : List RV) (i : Nat) (hd : densB v q = true) (hlo : loadOkB v l = true) (hi : i < v.joints.length) (hs : ∀ j ∈ v.joints, j.name.size ≤ 1000000000) (hjn : v.joints.length ≤ 2000000) (hq : q.length ≤ 2000000) (hsh : ∀ r ∈ q, r.short) (e : Env) (σ : St) (K : KT) (h : K (forceV v q l i) e σ) :
    ACall Tryz.prog 62 [structV v, ints l, sl ratRow q, .lit (.int .i64 (i : Nat))] e σ K := by
  unfold structV
  unfold forceV at h
  obtain ⟨F, hlq, hv⟩ := densB_facts hd
  obtain ⟨hll, hlb⟩ := loadOkB_facts hlo
  have hnj := F.nj
  have i1 : (2 * (i : Int)).toNat = 2 * i := by omega
  have i2 : (2 * (i : Int) + 1).toNat = 2 * i + 1 := by omega
  have hp := pullF_ok F q (i : Int)
  have hb1 := hlb (2 * i)
  have hb2 := hlb (2 * i + 1)
  have hsxo : (sumX v q l i).ok := addF_ok hp.1 (whole_small (by omega))
  have hsyo : (sumY v q l i).ok := addF_ok hp.2 (whole_small (by omega))
  have hsx : addF (pullF v (frsOf q) (i : Int)).1 (wholeF (l.getD (2 * i) 0)) = sumX v q l i := rfl
  have hsy : addF (pullF v (frsOf q) (i : Int)).2 (wholeF (l.getD (2 * i + 1) 0)) = sumY v q l i := rfl
  refine ACall.pureW Tryz.func62 rfl Tryz.ntmps62 Tryz.results62 rfl rfl rfl ?_
  simp -implicitDefEqProofs (disch := (first | omega | (simp only [go_sem] <;> omega) | fail)) only [go_sem, simprocAttr]
  refine callF.plain (spullOn_ok v q (i : Int) hs hjn hq hsh _ _ _ ?_)
  unfold pullOnV
  by_cases hok : (pullF v (frsOf q) i).1.isSome = true ∧ (pullF v (frsOf q) i).2.isSome = true
  · rw [if_pos hok] at h
    rw [if_pos ⟨hd, ⟨by omega, by omega⟩, hok⟩]
    obtain ⟨px, hpx⟩ : ∃ px, (pullF v (frsOf q) (i : Int)).1 = px := ⟨_, rfl⟩
    obtain ⟨py, hpy⟩ : ∃ py, (pullF v (frsOf q) (i : Int)).2 = py := ⟨_, rfl⟩
    obtain ⟨sx, hsx'⟩ : ∃ sx, sumX v q l i = sx := ⟨_, rfl⟩
    obtain ⟨sy, hsy'⟩ : ∃ sy, sumY v q l i = sy := ⟨_, rfl⟩
    rw [hpx, hsx'] at hsx
    rw [hpy, hsy'] at hsy
    rw [hpx, hpy] at hp
    rw [hpx, hpy]
    rw [hsx', hsy'] at h
    rw [hsx'] at hsxo
    rw [hsy'] at hsyo
    have lx := rv_lens hsxo
    have ly := rv_lens hsyo
    simp -implicitDefEqProofs (disch := (first | omega | (simp only [go_sem] <;> omega) | fail)) only [go_sem, simprocAttr]
    refine Sat.drawn1 10 (Blk.deep 3 [[.lit (.bool false), .lit (.slice none 0 0), .lit (.slice none 0 0)]]) (fun n => .ptr n 0 0) [11] mixed (by kernel_rfl) (by rintro o ⟨⟩ e σ; simp only [List.getElem_toArray, List.getElem_cons_succ, List.getElem_cons_zero]; simp -implicitDefEqProofs (disch := (first | omega | (simp only [go_sem] <;> omega) | fail)) only [go_sem, simprocAttr]) ?_
    simp -implicitDefEqProofs (disch := (first | omega | (simp only [go_sem] <;> omega) | fail)) only [go_sem, simprocAttr, ratRow_eq, i1, getD_int, wrap_i64]
    refine exQ.intro ⟨swhole_ok (l.getD (2 * i) 0) (by omega) (by omega) _ _ _ ⟨rfl, rfl⟩, swhole_ok (l.getD (2 * i) 0) (by omega) (by omega) _ _ _ ⟨rfl, rfl⟩⟩ ?_
    try simp -implicitDefEqProofs (disch := (first | omega | (simp only [go_sem] <;> omega) | fail)) only [go_sem, simprocAttr]
    refine exQ.intro ⟨sratAdd_ok px (wholeF (l.getD (2 * i) 0)) hp.1 (whole_small (by omega)) _ _ _ ⟨rfl, rfl⟩, sratAdd_ok px (wholeF (l.getD (2 * i) 0)) hp.1 (whole_small (by omega)) _ _ _ ⟨rfl, rfl⟩⟩ ?_
    rw [hsx]
    unfold ratV
    simp -implicitDefEqProofs (disch := (first | omega | (simp only [go_sem] <;> omega) | fail)) only [go_sem, simprocAttr]
    refine Sat.drawn1 11 (Blk.deep 3 [[.lit (.bool false), .lit (.slice none 0 0), .lit (.slice none 0 0)]]) (fun n => .ptr n 0 0) [12] mixed (by kernel_rfl) (by rintro o ⟨⟩ e σ; simp only [List.getElem_toArray, List.getElem_cons_succ, List.getElem_cons_zero]; simp -implicitDefEqProofs (disch := (first | omega | (simp only [go_sem] <;> omega) | fail)) only [go_sem, simprocAttr]) ?_
    simp -implicitDefEqProofs (disch := (first | omega | (simp only [go_sem] <;> omega) | fail)) only [go_sem, simprocAttr, ratRow_eq, i2, getD_int, wrap_i64]
    refine exQ.intro ⟨swhole_ok (l.getD (2 * i + 1) 0) (by omega) (by omega) _ _ _ ⟨rfl, rfl⟩, swhole_ok (l.getD (2 * i + 1) 0) (by omega) (by omega) _ _ _ ⟨rfl, rfl⟩⟩ ?_
    try simp -implicitDefEqProofs (disch := (first | omega | (simp only [go_sem] <;> omega) | fail)) only [go_sem, simprocAttr]
    refine exQ.intro ⟨sratAdd_ok py (wholeF (l.getD (2 * i + 1) 0)) hp.2 (whole_small (by omega)) _ _ _ ⟨rfl, rfl⟩, sratAdd_ok py (wholeF (l.getD (2 * i + 1) 0)) hp.2 (whole_small (by omega)) _ _ _ ⟨rfl, rfl⟩⟩ ?_
    rw [hsy]
    unfold ratV
    simp -implicitDefEqProofs (disch := (first | omega | (simp only [go_sem] <;> omega) | fail)) only [go_sem, simprocAttr]
    refine Sat.drawnT [2, 9] (.one 2 (.one 9 .leaf)) mixed (by kernel_rfl) ?_
    simp -implicitDefEqProofs (disch := (first | omega | (simp only [go_sem] <;> omega) | fail)) only [go_sem, simprocAttr]
    refine exQ.intro (fun n hh => sratOk_ok sx.rv (by omega) (by omega) _ _ _ ⟨rfl, rfl⟩) ?_
    rw [okB_fr hsxo]
    cases hqx : sx.isSome with
    | false =>
      rw [hqx] at h
      simp -implicitDefEqProofs (disch := (first | omega | (simp only [go_sem] <;> omega) | fail)) only [go_sem, simprocAttr, ratRow_eq]
      exact h
    | true =>
      rw [hqx] at h
      simp -implicitDefEqProofs (disch := (first | omega | (simp only [go_sem] <;> omega) | fail)) only [go_sem, simprocAttr]
      refine exQ.intro (fun n hh => sratOk_ok sy.rv (by omega) (by omega) _ _ _ ⟨rfl, rfl⟩) ?_
      rw [okB_fr hsyo]
      simp -implicitDefEqProofs (disch := (first | omega | (simp only [go_sem] <;> omega) | fail)) only [go_sem, simprocAttr, ratRow_eq]
      exact h
  · rw [if_neg hok] at h
    rw [if_neg (fun h => hok h.2.2)]
    simp -implicitDefEqProofs (disch := (first | omega | (simp only [go_sem] <;> omega) | fail)) only [go_sem, simprocAttr]
    exact h

set_option maxRecDepth 100000 in
set_option maxHeartbeats 1000000 in
theorem sisBalanced_ok (v : SV) (l : List Int) (q : List RV) (hs : ∀ j ∈ v.joints, j.name.size ≤ 1000000000) (hjn : v.joints.length ≤ 2000000) (hq : q.length ≤ 2000000) (hl : l.length ≤ 1000000000) (hsh : ∀ r ∈ q, r.short) (e : Env) (σ : St) (K : KT) (h : K (.lit (.bool (balB v l q))) e σ) :
    ACall Tryz.prog 21 [structV v, ints l, sl ratRow q] e σ K := by
  unfold structV
  unfold balB at h
  refine ACall.pureW Tryz.func21 rfl Tryz.ntmps21 Tryz.results21 rfl rfl rfl ?_
  simp -implicitDefEqProofs (disch := (first | omega | (simp only [go_sem] <;> omega) | fail)) only [go_sem, simprocAttr]
  refine callF.plain (sloadOk_ok v l hs hjn hl _ _ _ ?_)
  cases hc1 : (structOkB v && loadOkB v l) with
  | false =>
    have hcz : (densB v q && loadOkB v l) = false := by
      unfold densB
      cases h1 : structOkB v with
      | false => rfl
      | true => rw [h1] at hc1; rw [Bool.true_and] at hc1; rw [hc1, Bool.and_false]
    rw [hcz] at h
    simp -implicitDefEqProofs (disch := (first | omega | (simp only [go_sem] <;> omega) | fail)) only [go_sem, simprocAttr]
    exact h
  | true =>
    have hlo : loadOkB v l = true := by
      simp only [Bool.and_eq_true] at hc1; exact hc1.2
    simp -implicitDefEqProofs (disch := (first | omega | (simp only [go_sem] <;> omega) | fail)) only [go_sem, simprocAttr]
    refine callF.plain (sfits_ok v q hs hq hsh _ _ _ ?_)
    cases hd : densB v q with
    | false =>
      rw [hd] at h
      simp -implicitDefEqProofs (disch := (first | omega | (simp only [go_sem] <;> omega) | fail)) only [go_sem, simprocAttr]
      exact h
    | true =>
      rw [hd, hlo] at h
      obtain ⟨F, hlq, hv⟩ := densB_facts hd
      simp -implicitDefEqProofs (disch := (first | omega | (simp only [go_sem] <;> omega) | fail)) only [go_sem, simprocAttr]
      refine callF.plain (sfree_ok v hjn _ _ _ ?_)
      have hnj := F.nj
      have hfl := freeN_len v
      have hfz : (freeZ v).length = (freeN v).length := by simp [freeZ]
      simp -implicitDefEqProofs (disch := (first | omega | (simp only [go_sem] <;> omega) | fail)) only [go_sem, simprocAttr, hfz]
      refine Sat.loopW (fun (t : Nat) e' σ' => ∃ i, t = (freeN v).length - i ∧ i ≤ (freeN v).length ∧ e' 1 = ints l ∧ e' 2 = sl ratRow q ∧ e' 3 = .ptr σ.n 0 0 ∧ e' 22 = ints (freeZ v) ∧ e' 23 = .lit (.int .i64 (freeN v).length) ∧ e' 24 = .lit (.int .i64 (i : Nat)) ∧
        σ'.h σ.n = .deep 2 (structRows v) ∧ σ.n < σ'.n ∧ Old σ σ' ∧ ((freeN v).take i).all (balAt v q l) = true) (fun t => t) (freeN v).length rfl ?_ ?_
      · simp -implicitDefEqProofs (disch := (first | omega | (simp only [go_sem] <;> omega) | fail)) only [go_sem, simprocAttr, hfz]
        exact ⟨0, by omega, by omega, rfl, rfl, by omega, by simp⟩
      rintro t e1 σ1 ⟨i, rfl, hi, h1, h2, h3, h22, h23, h24, hB, hn, hO, hA⟩
      have hB' := hB
      unfold structRows at hB'
      by_cases hlt : i < (freeN v).length
      · have hlt' : (i : Int) < (freeN v).length := by omega
        have hlz : (i : Int) < (freeZ v).length := by omega
        have hgz := freeZ_getD hlt
        obtain ⟨j, hj⟩ : ∃ j, (freeN v)[i] = j := ⟨_, rfl⟩
        have hjl : j < v.joints.length := by rw [← hj]; exact freeN_lt (List.getElem_mem hlt)
        rw [hj] at hgz
        have hp := pullF_ok F q (j : Int)
        obtain ⟨_, hlb⟩ := loadOkB_facts hlo
        have hb1 := hlb (2 * j)
        have hb2 := hlb (2 * j + 1)
        have hsxo : (sumX v q l j).ok := addF_ok hp.1 (whole_small (by omega))
        have hsyo : (sumY v q l j).ok := addF_ok hp.2 (whole_small (by omega))
        have hbal : balAt v q l j = (zeroB (sumX v q l j) && zeroB (sumY v q l j)) := rfl
        rw [zeroB_eq, zeroB_eq] at hbal
        simp -implicitDefEqProofs (disch := (first | omega | (simp only [go_sem] <;> omega) | fail)) only [go_sem, simprocAttr, h1, h2, h3, h22, h23, h24, hlt', hlz, getD_int, hgz, hB']
        refine callF.plain (sforce_ok v l q j hd hlo hjl hs hjn hq hsh _ _ _ ?_)
        unfold forceV
        by_cases hok : (pullF v (frsOf q) j).1.isSome = true ∧ (pullF v (frsOf q) j).2.isSome = true
        · rw [if_pos hok]
          obtain ⟨sx, hsx⟩ : ∃ sx, sumX v q l j = sx := ⟨_, rfl⟩
          obtain ⟨sy, hsy⟩ : ∃ sy, sumY v q l j = sy := ⟨_, rfl⟩
          rw [hsx] at hsxo hbal ⊢
          rw [hsy] at hsyo hbal ⊢
          cases hqx : sx.isSome with
          | false =>
            simp -implicitDefEqProofs (disch := (first | omega | (simp only [go_sem] <;> omega) | fail)) only [go_sem, simprocAttr, h1, h2, h3, h22, h23, h24, Bool.false_and, Bool.true_and]
            have hbad : (freeN v).all (balAt v q l) = false := all_not hlt (by rw [hj, hbal]; simp [*])
            rw [hbad] at h
            simp -implicitDefEqProofs (disch := (first | omega | (simp only [go_sem] <;> omega) | fail)) only [go_sem, simprocAttr, hO]
            exact h
          | true =>
            cases hqy : sy.isSome with
            | false =>
              simp -implicitDefEqProofs (disch := (first | omega | (simp only [go_sem] <;> omega) | fail)) only [go_sem, simprocAttr, h1, h2, h3, h22, h23, h24, Bool.false_and, Bool.true_and]
              have hbad : (freeN v).all (balAt v q l) = false := all_not hlt (by rw [hj, hbal]; simp [*])
              rw [hbad] at h
              simp -implicitDefEqProofs (disch := (first | omega | (simp only [go_sem] <;> omega) | fail)) only [go_sem, simprocAttr, hO]
              exact h
            | true =>
              simp -implicitDefEqProofs (disch := (first | omega | (simp only [go_sem] <;> omega) | fail)) only [go_sem, simprocAttr, h1, h2, h3, h22, h23, h24, ratRow_eq, Bool.true_and]
              refine callF.plain (sratSign_ok sx hsxo _ _ _ ?_)
              by_cases hzx : sgnF sx = 0
              · simp -implicitDefEqProofs (disch := (first | omega | (simp only [go_sem] <;> omega) | fail)) only [go_sem, simprocAttr, h1, h2, h3, h22, h23, h24, ratRow_eq, hzx]
                refine callF.plain (sratSign_ok sy hsyo _ _ _ ?_)
                by_cases hzy : sgnF sy = 0
                · simp -implicitDefEqProofs (disch := (first | omega | (simp only [go_sem] <;> omega) | fail)) only [go_sem, simprocAttr, h1, h2, h3, h22, h23, h24, hzy, wrap_i64]
                  exact ⟨(freeN v).length - (i + 1), by omega, i + 1, rfl, by omega, rfl, hB, by omega, hO, all_take_succ hlt hA (by rw [hj, hbal, hqx, hqy, hzx, hzy]; rfl)⟩
                · simp -implicitDefEqProofs (disch := (first | omega | (simp only [go_sem] <;> omega) | fail)) only [go_sem, simprocAttr, h1, h2, h3, h22, h23, h24, hzy]
                  have hbad : (freeN v).all (balAt v q l) = false := all_not hlt (by rw [hj, hbal]; simp [*])
                  rw [hbad] at h
                  simp -implicitDefEqProofs (disch := (first | omega | (simp only [go_sem] <;> omega) | fail)) only [go_sem, simprocAttr, hO]
                  exact h
              · simp -implicitDefEqProofs (disch := (first | omega | (simp only [go_sem] <;> omega) | fail)) only [go_sem, simprocAttr, h1, h2, h3, h22, h23, h24, hzx]
                have hbad : (freeN v).all (balAt v q l) = false := all_not hlt (by rw [hj, hbal]; simp [*])
                rw [hbad] at h
                simp -implicitDefEqProofs (disch := (first | omega | (simp only [go_sem] <;> omega) | fail)) only [go_sem, simprocAttr, hO]
                exact h
        · rw [if_neg hok]
          have hbad0 : balAt v q l j = false := by
            unfold balAt sumX sumY
            cases h1 : (pullF v (frsOf q) (j : Int)).1 with
            | none => rfl
            | some a =>
              cases h2 : (pullF v (frsOf q) (j : Int)).2 with
              | none =>
                have : ∀ y, addF none y = none := fun y => rfl
                rw [this]; simp [zeroB]
              | some b => rw [h1, h2] at hok; simp at hok
          have hbad : (freeN v).all (balAt v q l) = false := all_not hlt (by rw [hj]; exact hbad0)
          rw [hbad] at h
          simp -implicitDefEqProofs (disch := (first | omega | (simp only [go_sem] <;> omega) | fail)) only [go_sem, simprocAttr, hO]
          exact h
      · have hlt' : ¬ (i : Int) < (freeN v).length := by omega
        have hie : i = (freeN v).length := by omega
        subst hie
        rw [List.take_of_length_le (Nat.le_refl _)] at hA
        rw [hA] at h
        simp -implicitDefEqProofs (disch := (first | omega | (simp only [go_sem] <;> omega) | fail)) only [go_sem, simprocAttr, h1, h2, h3, h22, h23, h24, hlt', hO]
        exact h
end Go.Proofs.Qqz
