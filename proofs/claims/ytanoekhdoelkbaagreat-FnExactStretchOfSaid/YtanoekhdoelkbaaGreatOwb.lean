/- Contracts: the laws' marks, and what holds them. -/
import Derived.Test.YtanoekhdoelkbaaGreatOwa
set_option linter.unusedSimpArgs false
set_option linter.unusedVariables false
namespace Go.Proofs.Qqz
open Go

@[go_sem] theorem getD_set_self {α : Type} (R : List α) (i : Nat) (x d : α) (h : i < R.length) : (R.set i x).getD i d = x := by simp [List.getD, h]

def markI (k : Int) (n : Nat) : List Int := (List.range n).map fun i => k + (i : Nat)
theorem markI_len (k : Int) (n : Nat) : (markI k n).length = n := by simp [markI]

set_option maxRecDepth 100000 in
set_option maxHeartbeats 1000000 in
theorem markInts_own (l : List Int) (hl : l.length ≤ 2000000) (k0 : Int) (h0 : 0 ≤ k0) (h1 : k0 ≤ 1000000000000000) (id : Nat) (e : Env) (σ : St) (hid : id < σ.n) (hB : σ.h id = bl intRow 1 l) (K : KT) (h : K (.lit (.int .i64 (k0 + l.length))) e (σ.put id (bl intRow 1 (markI k0 l.length)))) :
    ACall Tryz.prog 33 [.os id 0 l.length, .lit (.int .i64 k0)] e σ K := by
  refine ACall.bareW Tryz.func33 rfl Tryz.ntmps33 Tryz.results33 rfl rfl rfl ?_
  simp -implicitDefEqProofs (disch := (first | omega | (simp only [go_sem] <;> omega) | fail)) only [go_sem, simprocAttr]
  refine Sat.loopW (fun (t : Nat) e' σ' => ∃ (i : Nat) (L : List Int), t = l.length - i ∧ i ≤ l.length ∧ e' 0 = .os id 0 l.length ∧ e' 1 = .lit (.int .i64 (k0 + (i : Nat))) ∧ e' 5 = .lit (.int .i64 (i : Nat)) ∧
    σ' = σ.put id (bl intRow 1 L) ∧ L.length = l.length ∧ L.take i = markI k0 i) (fun t => t) l.length rfl ?_ ?_
  · simp -implicitDefEqProofs (disch := (first | omega | (simp only [go_sem] <;> omega) | fail)) only [go_sem, simprocAttr]
    refine ⟨0, l, by omega, by omega, by simp, rfl, ?_, rfl, by simp [markI]⟩
    rw [← hB]
    cases σ
    simp only [St.put, St.mk.injEq, true_and]
    funext j
    split
    · rename_i hj; rw [hj]
    · rfl
  rintro t e1 σ1 ⟨i, L, rfl, hi, g0, g1, g5, rfl, hL, hT⟩
  by_cases hlt : i < l.length
  · have hlt' : (i : Int) < l.length := by omega
    simp -implicitDefEqProofs (disch := (first | omega | (simp only [go_sem] <;> omega) | fail)) only [go_sem, simprocAttr, g0, g1, g5, hlt', wrap_i64, St.put_put]
    refine ⟨l.length - (i + 1), by omega, i + 1, L.set i (k0 + (i : Nat)), rfl, by omega, ?_, rfl, rfl, by simpa using hL, ?_⟩
    · rw [show k0 + (i : Int) + 1 = k0 + ((i + 1 : Nat) : Int) by omega]
    · rw [List.take_succ_eq_append_getElem (by simpa using (by omega : i < L.length))]
      simp [List.take_set_of_le, hT, markI, List.range_succ]
  · have hlt' : ¬ (i : Int) < l.length := by omega
    have hie : i = l.length := by omega
    subst hie
    rw [List.take_of_length_le (by omega)] at hT
    subst hT
    simp -implicitDefEqProofs (disch := (first | omega | (simp only [go_sem] <;> omega) | fail)) only [go_sem, simprocAttr, g0, g1, g5, hlt']
    exact h

theorem QB.set {σ σ' : St} {lo hi id : Nat} {T : List QT} (h : QB σ lo hi id T) {i : Nat} (hi' : i < T.length) {t : QT} (hm : t.m = T[i].m) (hd : t.d = T[i].d) (hn : σ'.n = σ.n) (hr : σ'.h id = .deep 3 ((T.set i t).map qRow)) (h1 : σ'.h t.m = bl intRow 1 t.r.mag) (h2 : σ'.h t.d = bl intRow 1 t.r.den)
    (hk : ∀ k, k ≠ id → k ≠ t.m → k ≠ t.d → σ'.h k = σ.h k) : QB σ' lo hi id (T.set i t) := by
  have hp := List.pairwise_iff_getElem.1 h.ok.apart
  have hne : ∀ j (hj : j < T.length), j ≠ i → T[j].m ≠ t.m ∧ T[j].m ≠ t.d ∧ T[j].d ≠ t.m ∧ T[j].d ≠ t.d := fun j hj hji => by
    rw [hm, hd]
    rcases Nat.lt_or_gt_of_ne hji with hlt | hlt
    · exact hp j i hj hi' hlt
    · have := hp i j hi' hj hlt
      omega
  obtain ⟨a, b, c, d, e⟩ := h.ok.each T[i] (List.getElem_mem hi')
  refine ⟨⟨fun u hu => ?_, ?_, h.ok.id1, h.ok.id2⟩, hr, by rw [hn]; exact h.n⟩
  · obtain ⟨j, hj, rfl⟩ := List.getElem_of_mem hu
    by_cases hji : j = i
    · subst hji
      rw [List.getElem_set_self]
      rw [← hm] at a c
      rw [← hd] at b c
      exact ⟨a, b, c, h1, h2⟩
    · have hj' : j < T.length := by simpa using hj
      rw [List.getElem_set_ne (by omega)]
      obtain ⟨a', b', c', d', e'⟩ := h.ok.each T[j] (List.getElem_mem hj')
      obtain ⟨n1, n2, n3, n4⟩ := hne j hj' hji
      exact ⟨a', b', c', by rw [hk _ a'.2.2 n1 n2]; exact d', by rw [hk _ b'.2.2 n3 n4]; exact e'⟩
  · refine List.pairwise_iff_getElem.2 fun j k hj hk' hjk => ?_
    have hj' : j < T.length := by simpa using hj
    have hk'' : k < T.length := by simpa using hk'
    by_cases hji : j = i
    · subst hji
      rw [List.getElem_set_self, List.getElem_set_ne (by omega)]
      have := hne k hk'' (by omega)
      omega
    · rw [List.getElem_set_ne (by omega)]
      by_cases hki : k = i
      · subst hki
        rw [List.getElem_set_self]
        exact hne j hj' (by omega)
      · rw [List.getElem_set_ne (by omega)]
        exact hp j k hj' hk'' hjk

/-- Where the marks of fraction i begin. -/
def kAt (k : Int) (q : List RV) : Nat → Int
  | 0 => k
  | i + 1 => kAt k q i + 1 + (q.getD i default).mag.length + (q.getD i default).den.length
def markAt (k : Int) (q : List RV) (i : Nat) : RV :=
  ⟨decide ((kAt k q i).tmod 3 = 0), markI (kAt k q i + 1) (q.getD i default).mag.length, markI (kAt k q i + 1 + (q.getD i default).mag.length) (q.getD i default).den.length⟩
def markQ (k : Int) (q : List RV) : List RV := (List.range q.length).map (markAt k q)
/-- All the marks. -/
def smallB (q : List RV) : Prop := q.length ≤ 2000000 ∧ ∀ x ∈ q, toRat_pre x
theorem kAt_pos {k : Int} (h : 0 ≤ k) (q : List RV) : ∀ i, 0 ≤ kAt k q i
  | 0 => h
  | i + 1 => by have := kAt_pos h q i; unfold kAt; omega
theorem kAt_le {k : Int} {q : List RV} (hq : ∀ x ∈ q, toRat_pre x) : ∀ i, i ≤ q.length → kAt k q i ≤ k + 4000001 * i
  | 0, _ => by simp [kAt]
  | i + 1, h => by
    have := kAt_le (k := k) hq i (by omega)
    have h2 := hq _ (List.getElem_mem (show i < q.length by omega))
    unfold toRat_pre at h2
    unfold kAt
    rw [getD_elem q i (by omega)]
    omega

set_option maxRecDepth 100000 in
set_option maxHeartbeats 1000000 in
theorem markRats_own (T : List QT) (hs : smallB (T.map QT.r)) (k0 : Int) (h0 : 0 ≤ k0) (h1 : k0 + 4000001 * T.length ≤ 1000000000000000) (lo hi id : Nat) (e : Env) (σ : St) (hB : QB σ lo hi id T) (K : KT)
    (h : ∀ σ' T', σ'.n = σ.n → (∀ k, k < lo ∨ hi ≤ k → σ'.h k = σ.h k) → QB σ' lo hi id T' → T'.map QT.r = markQ k0 (T.map QT.r) → K (.lit (.int .i64 (kAt k0 (T.map QT.r) T.length))) e σ') :
    ACall Tryz.prog 19 [.os id 0 T.length, .lit (.int .i64 k0)] e σ K := by
  obtain ⟨hs1, hs2⟩ := hs
  rw [List.length_map] at hs1
  refine ACall.bareW Tryz.func19 rfl Tryz.ntmps19 Tryz.results19 rfl rfl rfl ?_
  simp -implicitDefEqProofs (disch := (first | omega | (simp only [go_sem] <;> omega) | fail)) only [go_sem, simprocAttr]
  refine Sat.loopW (fun (t : Nat) e' σ' => ∃ (i : Nat) (T1 : List QT), t = T.length - i ∧ i ≤ T.length ∧ e' 0 = .os id 0 T.length ∧ e' 1 = .lit (.int .i64 (kAt k0 (T.map QT.r) i)) ∧ e' 5 = .lit (.int .i64 (i : Nat)) ∧
    σ'.n = σ.n ∧ (∀ k, k < lo ∨ hi ≤ k → σ'.h k = σ.h k) ∧ QB σ' lo hi id T1 ∧ T1.length = T.length ∧ (∀ j (hj : j < T1.length) (hj' : j < T.length), j < i → T1[j].r = markAt k0 (T.map QT.r) j) ∧ (∀ j (hj : j < T1.length) (hj' : j < T.length), i ≤ j → T1[j] = T[j])) (fun t => t) T.length rfl ?_ ?_
  · simp -implicitDefEqProofs (disch := (first | omega | (simp only [go_sem] <;> omega) | fail)) only [go_sem, simprocAttr]
    exact ⟨0, T, by omega, by omega, rfl, rfl, hB, rfl, fun j hj hj' h => by omega, fun _ _ _ _ => rfl⟩
  clear hB
  rintro t e1 σ1 ⟨i, T1, rfl, hi', g0, g1, g5, hn, hfr, hB, hL, hM, hU⟩
  have hid1 := hB.ok.id1
  have hid2 := hB.ok.id2
  have hhi := hB.n
  by_cases hlt : i < T.length
  · have hlt' : (i : Int) < T.length := by omega
    have hlt1 : i < T1.length := by omega
    have hTi := hU i hlt1 hlt (Nat.le_refl _)
    obtain ⟨t, ht⟩ : ∃ t, T1[i] = t := ⟨_, rfl⟩
    obtain ⟨a, b, c, d, ee⟩ := hB.ok.each T1[i] (List.getElem_mem hlt1)
    rw [ht] at a b c d ee hTi
    have hrw := hB.rows
    obtain ⟨R, hR⟩ : ∃ R, T1.map qRow = R := ⟨_, rfl⟩
    rw [hR] at hrw
    have hRl : R.length = T.length := by rw [← hR]; simpa using hL
    have hRi : R.getD i [] = qRow t := by rw [← hR, List.getD, List.getElem?_map, List.getElem?_eq_getElem hlt1, ht]; rfl
    rw [qRow_eq] at hRi
    have hgd : (T.map QT.r).getD i default = t.r := by rw [getD_elem _ i (by simpa using hlt)]; simp [← hTi]
    have hpre := hs2 t.r (by rw [hTi]; exact List.mem_map.2 ⟨T[i], List.getElem_mem hlt, rfl⟩)
    have hk1 := kAt_pos h0 (T.map QT.r) i
    have hk2 := kAt_le (k := k0) hs2 i (by simpa using hi')
    obtain ⟨ki, hki⟩ : ∃ ki, kAt k0 (T.map QT.r) i = ki := ⟨_, rfl⟩
    have hma : markAt k0 (T.map QT.r) i = ⟨decide (ki.tmod 3 = 0), markI (ki + 1) t.r.mag.length, markI (ki + 1 + t.r.mag.length) t.r.den.length⟩ := by
      unfold markAt; rw [hki, hgd]
    have hks : kAt k0 (T.map QT.r) (i + 1) = ki + 1 + t.r.mag.length + t.r.den.length := by
      show kAt k0 (T.map QT.r) i + 1 + _ + _ = _
      rw [hki, hgd]
    rw [hki] at hk1 hk2 g1
    unfold toRat_pre at hpre
    simp -implicitDefEqProofs (disch := (first | omega | (simp only [go_sem] <;> omega) | fail)) only [go_sem, simprocAttr, g0, g1, g5, hlt', hrw, hRi, wrap_i64]
    refine callF.plain (markInts_own t.r.mag hpre.1 (ki + 1) (by omega) (by omega) t.m _ _ (by first | omega | (simp -implicitDefEqProofs (disch := (first | omega | (simp only [go_sem] <;> omega) | fail)) only [go_sem, simprocAttr]; omega)) (by simp -implicitDefEqProofs (disch := (first | omega | (simp only [go_sem] <;> omega) | fail)) only [go_sem, simprocAttr, d]) _ ?_)
    have hmi : ¬ t.m = id := a.2.2
    have hdi : ¬ t.d = id := b.2.2
    have hmd : ¬ t.m = t.d := c
    have hmi' : ¬ id = t.m := fun h => hmi h.symm
    have hdi' : ¬ id = t.d := fun h => hdi h.symm
    have hmd' : ¬ t.d = t.m := fun h => hmd h.symm
    simp -implicitDefEqProofs (disch := (first | omega | (simp only [go_sem] <;> omega) | fail)) only [go_sem, simprocAttr, g0, g1, g5]
    refine callF.plain (markInts_own t.r.den hpre.2 (ki + 1 + t.r.mag.length) (by omega) (by omega) t.d _ _ (by first | omega | (simp -implicitDefEqProofs (disch := (first | omega | (simp only [go_sem] <;> omega) | fail)) only [go_sem, simprocAttr]; omega)) (by simp -implicitDefEqProofs (disch := (first | omega | (simp only [go_sem] <;> omega) | fail)) only [go_sem, simprocAttr, ee]) _ ?_)
    simp -implicitDefEqProofs (disch := (first | omega | (simp only [go_sem] <;> omega) | fail)) only [go_sem, simprocAttr, g0, g1, g5, wrap_i64]
    have hset : ((T1.set i ⟨markAt k0 (T.map QT.r) i, t.m, t.d⟩).map qRow) = R.set i [.lit (.bool (decide (ki.tmod 3 = 0))), .os t.m 0 t.r.mag.length, .os t.d 0 t.r.den.length] := by
      rw [List.map_set, hR, hma, qRow_eq]
      simp [markI_len]
    refine ⟨T.length - (i + 1), by omega, i + 1, T1.set i ⟨markAt k0 (T.map QT.r) i, t.m, t.d⟩, rfl, by omega, by rw [hks], rfl, ?_, ?_, ?_, by simpa using hL, ?_, ?_⟩
    · exact hn
    · intro k hk
      have q1 : ¬ k = id := by omega
      have q2 : ¬ k = t.m := by omega
      have q3 : ¬ k = t.d := by omega
      simp -implicitDefEqProofs (disch := (first | omega | (simp only [go_sem] <;> omega) | fail)) only [go_sem, simprocAttr]
      exact hfr k hk
    · refine hB.set hlt1 (by rw [ht]) (by rw [ht]) rfl ?_ ?_ ?_ ?_
      · rw [hset]; simp -implicitDefEqProofs (disch := (first | omega | (simp only [go_sem] <;> omega) | fail)) only [go_sem, simprocAttr]
      · rw [hma]; simp -implicitDefEqProofs (disch := (first | omega | (simp only [go_sem] <;> omega) | fail)) only [go_sem, simprocAttr]
      · rw [hma]; simp -implicitDefEqProofs (disch := (first | omega | (simp only [go_sem] <;> omega) | fail)) only [go_sem, simprocAttr]
      · intro k q1 q2 q3
        simp -implicitDefEqProofs (disch := (first | omega | (simp only [go_sem] <;> omega) | fail)) only [go_sem, simprocAttr]
    · intro j hj hj' hji
      by_cases hjj : j = i
      · subst hjj; rw [List.getElem_set_self]
      · rw [List.getElem_set_ne (by omega)]; exact hM j (by simpa using hj) hj' (by omega)
    · intro j hj hj' hji
      rw [List.getElem_set_ne (by omega)]; exact hU j (by simpa using hj) hj' (by omega)
  · have hlt' : ¬ (i : Int) < T.length := by omega
    have hie : i = T.length := by omega
    subst hie
    simp -implicitDefEqProofs (disch := (first | omega | (simp only [go_sem] <;> omega) | fail)) only [go_sem, simprocAttr, g0, g1, g5, hlt']
    refine h σ1 T1 hn hfr hB ?_
    apply List.ext_getElem
    · simp [markQ, hL]
    · intro j h1 h2
      have hj : j < T1.length := by simpa using h1
      rw [List.getElem_map, hM j hj (by omega) (by omega)]
      simp [markQ]

set_option maxRecDepth 100000 in
set_option maxHeartbeats 1000000 in
theorem markRats_nil (k0 : Int) (e : Env) (σ : St) (K : KT) (h : K (.lit (.int .i64 k0)) e σ) : ACall Tryz.prog 19 [.ps [], .lit (.int .i64 k0)] e σ K := by
  refine ACall.pureW Tryz.func19 rfl Tryz.ntmps19 Tryz.results19 rfl rfl rfl ?_
  simp -implicitDefEqProofs (disch := (first | omega | (simp only [go_sem] <;> omega) | fail)) only [go_sem, simprocAttr]
  refine Sat.loopW (fun (t : Nat) e' σ' => e' 0 = .ps [] ∧ e' 1 = .lit (.int .i64 k0) ∧ e' 5 = .lit (.int .i64 0) ∧ Old σ σ') (fun t => t) 0 rfl ?_ ?_
  · simp -implicitDefEqProofs (disch := (first | omega | (simp only [go_sem] <;> omega) | fail)) only [go_sem, simprocAttr]
  rintro t e1 σ1 ⟨g0, g1, g5, hO⟩
  simp -implicitDefEqProofs (disch := (first | omega | (simp only [go_sem] <;> omega) | fail)) only [go_sem, simprocAttr, g0, g1, g5, hO]
  exact h

theorem markI_get (k : Int) (n i : Nat) (h : i < n) : (markI k n).getD i 0 = k + (i : Nat) := by
  simp [markI, List.getD, h]

set_option maxRecDepth 100000 in
set_option maxHeartbeats 1000000 in
theorem heldInts_ok (k0 : Int) (n : Nat) (hn : n ≤ 2000000) (h0 : 0 ≤ k0) (h1 : k0 ≤ 1000000000000000) (e : Env) (σ : St) (K : KT) (h : K (.lit (.int .i64 (k0 + n))) e σ) : ACall Tryz.prog 59 [sl intRow (markI k0 n), .lit (.int .i64 k0)] e σ K := by
  refine ACall.pureW Tryz.func59 rfl Tryz.ntmps59 Tryz.results59 rfl rfl rfl ?_
  have hl := markI_len k0 n
  simp -implicitDefEqProofs (disch := (first | omega | (simp only [go_sem] <;> omega) | fail)) only [go_sem, simprocAttr]
  refine Sat.loopW (fun (t : Nat) e' σ' => ∃ (i : Nat), t = n - i ∧ i ≤ n ∧ e' 0 = sl intRow (markI k0 n) ∧ e' 1 = .lit (.int .i64 (k0 + (i : Nat))) ∧ e' 5 = .lit (.int .i64 (i : Nat)) ∧ Old σ σ') (fun t => t) n rfl ?_ ?_
  · simp -implicitDefEqProofs (disch := (first | omega | (simp only [go_sem] <;> omega) | fail)) only [go_sem, simprocAttr]
    exact ⟨0, by omega, by omega, by simp, rfl⟩
  rintro t e1 σ1 ⟨i, rfl, hi, g0, g1, g5, hO⟩
  have hOn := hO.1
  by_cases hlt : i < n
  · have hlt' : (i : Int) < n := by omega
    have hg := markI_get k0 n i hlt
    simp -implicitDefEqProofs (disch := (first | omega | (simp only [go_sem] <;> omega) | fail)) only [go_sem, simprocAttr, g0, g1, g5, hl, hlt', getD_int, hg, wrap_i64]
    exact ⟨n - (i + 1), by omega, i + 1, rfl, by omega, by rw [show k0 + (i : Int) + 1 = k0 + ((i + 1 : Nat) : Int) by omega], rfl, hO⟩
  · have hlt' : ¬ (i : Int) < n := by omega
    have hie : i = n := by omega
    subst hie
    simp -implicitDefEqProofs (disch := (first | omega | (simp only [go_sem] <;> omega) | fail)) only [go_sem, simprocAttr, g0, g1, g5, hl, hlt', hO]
    exact h

set_option maxRecDepth 100000 in
set_option maxHeartbeats 1000000 in
theorem heldRats_ok (q : List RV) (hs : smallB q) (k0 : Int) (h0 : 0 ≤ k0) (h1 : k0 + 4000001 * q.length ≤ 1000000000000000) (e : Env) (σ : St) (K : KT) (h : K (.lit (.int .i64 (kAt k0 q q.length))) e σ) :
    ACall Tryz.prog 20 [sl ratRow (markQ k0 q), .lit (.int .i64 k0)] e σ K := by
  obtain ⟨hs1, hs2⟩ := hs
  refine ACall.pureW Tryz.func20 rfl Tryz.ntmps20 Tryz.results20 rfl rfl rfl ?_
  have hl : (markQ k0 q).length = q.length := by simp [markQ]
  simp -implicitDefEqProofs (disch := (first | omega | (simp only [go_sem] <;> omega) | fail)) only [go_sem, simprocAttr]
  refine Sat.loopW (fun (t : Nat) e' σ' => ∃ (i : Nat), t = q.length - i ∧ i ≤ q.length ∧ e' 0 = sl ratRow (markQ k0 q) ∧ e' 1 = .lit (.int .i64 (kAt k0 q i)) ∧ e' 5 = .lit (.int .i64 (i : Nat)) ∧ Old σ σ') (fun t => t) q.length rfl ?_ ?_
  · simp -implicitDefEqProofs (disch := (first | omega | (simp only [go_sem] <;> omega) | fail)) only [go_sem, simprocAttr]
    exact ⟨0, by omega, by omega, rfl, rfl⟩
  rintro t e1 σ1 ⟨i, rfl, hi, g0, g1, g5, hO⟩
  have hOn := hO.1
  by_cases hlt : i < q.length
  · have hlt' : (i : Int) < q.length := by omega
    have hg : (markQ k0 q).getD i default = markAt k0 q i := by rw [getD_elem _ i (by omega)]; simp [markQ]
    have hpre := hs2 _ (List.getElem_mem hlt)
    have hk1 := kAt_pos h0 q i
    have hk2 := kAt_le (k := k0) hs2 i hi
    obtain ⟨ki, hki⟩ : ∃ ki, kAt k0 q i = ki := ⟨_, rfl⟩
    have hgd := getD_elem q i hlt default
    obtain ⟨r, hr⟩ : ∃ r, q[i] = r := ⟨_, rfl⟩
    rw [hr] at hgd hpre
    have hks : kAt k0 q (i + 1) = ki + 1 + r.mag.length + r.den.length := by
      show kAt k0 q i + 1 + _ + _ = _
      rw [hki, hgd]
    unfold markAt at hg
    rw [hki, hgd] at hg
    rw [hki] at hk1 hk2 g1
    unfold toRat_pre at hpre
    have hbb : (decide (ki.tmod 3 = 0) == decide (ki.tmod 3 = 0)) = true := by simp
    simp -implicitDefEqProofs (disch := (first | omega | (simp only [go_sem] <;> omega) | fail)) only [go_sem, simprocAttr, g0, g1, g5, hl, hlt', ratRow_eq, hg, hbb, wrap_i64]
    refine callF.plain (heldInts_ok (ki + 1) r.mag.length hpre.1 (by omega) (by omega) _ _ _ ?_)
    have hn1 : ¬ ki + 1 + (r.mag.length : Int) < 0 := by omega
    simp -implicitDefEqProofs (disch := (first | omega | (simp only [go_sem] <;> omega) | fail)) only [go_sem, simprocAttr, g0, g1, g5, hl, hlt', ratRow_eq, hg, hn1]
    refine callF.plain (heldInts_ok (ki + 1 + r.mag.length) r.den.length hpre.2 (by omega) (by omega) _ _ _ ?_)
    have hn2 : ¬ ki + 1 + (r.mag.length : Int) + (r.den.length : Int) < 0 := by omega
    simp -implicitDefEqProofs (disch := (first | omega | (simp only [go_sem] <;> omega) | fail)) only [go_sem, simprocAttr, g0, g1, g5, hn2, wrap_i64]
    exact ⟨q.length - (i + 1), by omega, i + 1, rfl, by omega, by rw [hks], rfl, hO⟩
  · have hlt' : ¬ (i : Int) < q.length := by omega
    have hie : i = q.length := by omega
    subst hie
    simp -implicitDefEqProofs (disch := (first | omega | (simp only [go_sem] <;> omega) | fail)) only [go_sem, simprocAttr, g0, g1, g5, hl, hlt', hO]
    exact h

@[go_sem] theorem size_push1 (b : UInt8) : (ByteArray.empty.push b).size = 1 := by simp [ByteArray.size_push]
set_option maxRecDepth 100000 in
set_option maxHeartbeats 1000000 in
theorem markText_ok (k : Int) (h0 : 0 ≤ k) (h1 : k ≤ 2000000000000000) (e : Env) (σ : St) (K : KT) (h : ∀ s : ByteArray, K (.lit (.string s)) e σ) : ACall Tryz.prog 110 [.lit (.int .i64 k)] e σ K := by
  refine ACall.pureW Tryz.func110 rfl Tryz.ntmps110 Tryz.results110 rfl rfl rfl ?_
  by_cases hk : k ≤ 0
  · simp -implicitDefEqProofs (disch := (first | omega | (simp only [go_sem] <;> omega) | fail)) only [go_sem, simprocAttr, hk]
    exact h _
  simp -implicitDefEqProofs (disch := (first | omega | (simp only [go_sem] <;> omega) | fail)) only [go_sem, simprocAttr, hk]
  refine Sat.loopW (fun (t : Nat) e' σ' => ∃ (s : ByteArray), e' 0 = .lit (.int .i64 (t : Nat)) ∧ e' 3 = .lit (.string s) ∧ s.size + t ≤ k.toNat ∧ Old σ σ') (fun t => t) k.toNat rfl ?_ ?_
  · simp -implicitDefEqProofs (disch := (first | omega | (simp only [go_sem] <;> omega) | fail)) only [go_sem, simprocAttr]
    exact ⟨ByteArray.empty, by rw [show ((k.toNat : Nat) : Int) = k by omega], rfl, by simp⟩
  rintro t e1 σ1 ⟨s, g0, g3, hs, hO⟩
  have hOn := hO.1
  by_cases ht : 0 < t
  · have ht' : (0 : Int) < (t : Int) := by omega
    have hm := Int.tmod_eq_emod_of_nonneg (b := 10) (show (0 : Int) ≤ (t : Int) by omega)
    have hd := Int.tdiv_eq_ediv_of_nonneg (b := 10) (show (0 : Int) ≤ (t : Int) by omega)
    simp -implicitDefEqProofs (disch := (first | omega | (simp only [go_sem] <;> omega) | fail)) only [go_sem, simprocAttr, g0, g3, ht', hm, hd, wrap_i64]
    rw [bytesF_one (158) (9) σ1.n (IntKind.u8.wrap (48 + (t : Int) % 10)) (by rw [show Tryz.prog.underlying (158) = some (.slice (5)) by kernel_rfl]; show Tryz.prog.underlying (5) = some (.int .u8); kernel_rfl) (by kernel_rfl) (by simp -implicitDefEqProofs (disch := (first | omega | (simp only [go_sem] <;> omega) | fail)) only [go_sem, simprocAttr])]
    have hdiv : (t : Int) / 10 = ((t / 10 : Nat) : Int) := by omega
    simp -implicitDefEqProofs (disch := (first | omega | (simp only [go_sem] <;> omega) | fail)) only [go_sem, simprocAttr, g0, g3, hdiv, wrap_i64]
    refine ⟨by omega, t / 10, by omega, _, by rw [hd, hdiv], rfl, ?_, hO⟩
    rw [ByteArray.size_append, size_push1]
    omega
  · have ht' : ¬ (0 : Int) < (t : Int) := by omega
    simp -implicitDefEqProofs (disch := (first | omega | (simp only [go_sem] <;> omega) | fail)) only [go_sem, simprocAttr, g0, g3, ht', hO]
    refine ⟨?_, h _⟩
    rw [show (⟨#[109]⟩ : ByteArray).size = 1 from rfl]
    omega

set_option maxRecDepth 100000 in
set_option maxHeartbeats 1000000 in
theorem markJoints_own (l : List JV) (hl : l.length ≤ 2000000) (k0 : Int) (h0 : 0 ≤ k0) (h1 : k0 ≤ 1000000000000000) (id : Nat) (e : Env) (σ : St) (hid : id < σ.n) (hB : σ.h id = bl jointRow 4 l) (K : KT) (h : ∀ B, K (.lit (.int .i64 (k0 + 4 * l.length))) e (σ.put id B)) :
    ACall Tryz.prog 57 [.os id 0 l.length, .lit (.int .i64 k0)] e σ K := by
  refine ACall.bareW Tryz.func57 rfl Tryz.ntmps57 Tryz.results57 rfl rfl rfl ?_
  simp -implicitDefEqProofs (disch := (first | omega | (simp only [go_sem] <;> omega) | fail)) only [go_sem, simprocAttr]
  refine Sat.loopW (fun (t : Nat) e' σ' => ∃ (i : Nat) (R : List (List AV)), t = l.length - i ∧ i ≤ l.length ∧ e' 0 = .os id 0 l.length ∧ e' 1 = .lit (.int .i64 (k0 + 4 * (i : Nat))) ∧ e' 5 = .lit (.int .i64 (i : Nat)) ∧
    σ' = σ.put id (.flat 4 R) ∧ R.length = l.length) (fun t => t) l.length rfl ?_ ?_
  · simp -implicitDefEqProofs (disch := (first | omega | (simp only [go_sem] <;> omega) | fail)) only [go_sem, simprocAttr]
    refine ⟨0, l.map jointRow, by omega, by omega, by simp, rfl, ?_, by simp⟩
    rw [show Blk.flat 4 (l.map jointRow) = bl jointRow 4 l from rfl, ← hB]
    cases σ
    simp only [St.put, St.mk.injEq, true_and]
    funext j
    split
    · rename_i hj; rw [hj]
    · rfl
  rintro t e1 σ1 ⟨i, R, rfl, hi, g0, g1, g5, rfl, hL⟩
  by_cases hlt : i < l.length
  · have hlt' : (i : Int) < l.length := by omega
    simp -implicitDefEqProofs (disch := (first | omega | (simp only [go_sem] <;> omega) | fail)) only [go_sem, simprocAttr, g0, g1, g5, hlt']
    refine callF.plain (markText_ok (k0 + 4 * (i : Nat)) (by omega) (by omega) _ _ _ fun s => ?_)
    simp -implicitDefEqProofs (disch := (first | omega | (simp only [go_sem] <;> omega) | fail)) only [go_sem, simprocAttr, g0, g1, g5, wrap_i64]
    refine ⟨l.length - (i + 1), by omega, i + 1, _, rfl, by omega, by rw [show k0 + 4 * (i : Int) + 1 + 1 + 1 + 1 = k0 + 4 * ((i + 1 : Nat) : Int) by omega], rfl, rfl, by simpa using hL⟩
  · have hlt' : ¬ (i : Int) < l.length := by omega
    have hie : i = l.length := by omega
    subst hie
    simp -implicitDefEqProofs (disch := (first | omega | (simp only [go_sem] <;> omega) | fail)) only [go_sem, simprocAttr, g0, g1, g5, hlt']
    exact h _
set_option maxRecDepth 100000 in
set_option maxHeartbeats 1000000 in
theorem markMems_own (l : List MV) (hl : l.length ≤ 2000000) (k0 : Int) (h0 : 0 ≤ k0) (h1 : k0 ≤ 1000000000000000) (id : Nat) (e : Env) (σ : St) (hid : id < σ.n) (hB : σ.h id = bl memRow 3 l) (K : KT) (h : ∀ B, K (.lit (.int .i64 (k0 + 3 * l.length))) e (σ.put id B)) :
    ACall Tryz.prog 58 [.os id 0 l.length, .lit (.int .i64 k0)] e σ K := by
  refine ACall.bareW Tryz.func58 rfl Tryz.ntmps58 Tryz.results58 rfl rfl rfl ?_
  simp -implicitDefEqProofs (disch := (first | omega | (simp only [go_sem] <;> omega) | fail)) only [go_sem, simprocAttr]
  refine Sat.loopW (fun (t : Nat) e' σ' => ∃ (i : Nat) (R : List (List AV)), t = l.length - i ∧ i ≤ l.length ∧ e' 0 = .os id 0 l.length ∧ e' 1 = .lit (.int .i64 (k0 + 3 * (i : Nat))) ∧ e' 5 = .lit (.int .i64 (i : Nat)) ∧
    σ' = σ.put id (.flat 3 R) ∧ R.length = l.length) (fun t => t) l.length rfl ?_ ?_
  · simp -implicitDefEqProofs (disch := (first | omega | (simp only [go_sem] <;> omega) | fail)) only [go_sem, simprocAttr]
    refine ⟨0, l.map memRow, by omega, by omega, by simp, rfl, ?_, by simp⟩
    rw [show Blk.flat 3 (l.map memRow) = bl memRow 3 l from rfl, ← hB]
    cases σ
    simp only [St.put, St.mk.injEq, true_and]
    funext j
    split
    · rename_i hj; rw [hj]
    · rfl
  rintro t e1 σ1 ⟨i, R, rfl, hi, g0, g1, g5, rfl, hL⟩
  by_cases hlt : i < l.length
  · have hlt' : (i : Int) < l.length := by omega
    simp -implicitDefEqProofs (disch := (first | omega | (simp only [go_sem] <;> omega) | fail)) only [go_sem, simprocAttr, g0, g1, g5, hlt', wrap_i64]
    refine ⟨l.length - (i + 1), by omega, i + 1, _, rfl, by omega, by rw [show k0 + 3 * (i : Int) + 1 + 1 + 1 = k0 + 3 * ((i + 1 : Nat) : Int) by omega], rfl, rfl, by simpa using hL⟩
  · have hlt' : ¬ (i : Int) < l.length := by omega
    have hie : i = l.length := by omega
    subst hie
    simp -implicitDefEqProofs (disch := (first | omega | (simp only [go_sem] <;> omega) | fail)) only [go_sem, simprocAttr, g0, g1, g5, hlt']
    exact h _

set_option maxRecDepth 100000 in
set_option maxHeartbeats 1000000 in
theorem markStruct_own (v : SV) (hj : v.joints.length ≤ 2000000) (hm : v.members.length ≤ 2000000) (k0 : Int) (h0 : 0 ≤ k0) (h1 : k0 ≤ 100000000000000) (lo hi a b : Nat) (e : Env) (σ : St) (hB : SB σ lo hi a b v) (K : KT)
    (h : ∀ σ', σ.n ≤ σ'.n → (∀ k, k < σ.n → (k < lo ∨ hi ≤ k) → σ'.h k = σ.h k) → K (.lit (.int .i64 (k0 + 4 * v.joints.length + 3 * v.members.length))) e σ') :
    ACall Tryz.prog 18 [ownS v a b, .lit (.int .i64 k0)] e σ K := by
  obtain ⟨a1, a2, b1, b2, ab, js, ms, hn⟩ := hB
  unfold ownS
  refine ACall.bareW Tryz.func18 rfl Tryz.ntmps18 Tryz.results18 rfl rfl rfl ?_
  simp -implicitDefEqProofs (disch := (first | omega | (simp only [go_sem] <;> omega) | fail)) only [go_sem, simprocAttr]
  refine callF.plain (markJoints_own v.joints hj k0 h0 (by omega) a _ _ (by first | omega | (simp -implicitDefEqProofs (disch := (first | omega | (simp only [go_sem] <;> omega) | fail)) only [go_sem, simprocAttr]; omega)) (by simp -implicitDefEqProofs (disch := (first | omega | (simp only [go_sem] <;> omega) | fail)) only [go_sem, simprocAttr, js]) _ fun B1 => ?_)
  simp -implicitDefEqProofs (disch := (first | omega | (simp only [go_sem] <;> omega) | fail)) only [go_sem, simprocAttr]
  have hab : ¬ b = a := fun h => ab h.symm
  refine callF.plain (markMems_own v.members hm (k0 + 4 * v.joints.length) (by omega) (by omega) b _ _ (by first | omega | (simp -implicitDefEqProofs (disch := (first | omega | (simp only [go_sem] <;> omega) | fail)) only [go_sem, simprocAttr]; omega)) (by simp -implicitDefEqProofs (disch := (first | omega | (simp only [go_sem] <;> omega) | fail)) only [go_sem, simprocAttr, ms]) _ fun B2 => ?_)
  simp -implicitDefEqProofs (disch := (first | omega | (simp only [go_sem] <;> omega) | fail)) only [go_sem, simprocAttr]
  refine h _ (by first | omega | (simp -implicitDefEqProofs (disch := (first | omega | (simp only [go_sem] <;> omega) | fail)) only [go_sem, simprocAttr]; omega)) fun k hk hkk => ?_
  have q1 : ¬ k = a := by omega
  have q2 : ¬ k = b := by omega
  simp -implicitDefEqProofs (disch := (first | omega | (simp only [go_sem] <;> omega) | fail)) only [go_sem, simprocAttr]
end Go.Proofs.Qqz
