/- Contracts: the laws' copies, in blocks of the caller's own. -/
import Derived.Test.YtanoekhdoelkbaaGreatLend
import Derived.Test.YtanoekhdoelkbaaGreatLwa
set_option linter.unusedSimpArgs false
set_option linter.unusedVariables false
namespace Go.Proofs.Qqz
open Go

/-- A fraction whose two lists lie in own blocks. -/
structure QT where
  r : RV
  m : Nat
  d : Nat
def qRow (t : QT) : List AV := [.lit (.bool t.r.neg), .os t.m 0 t.r.mag.length, .os t.d 0 t.r.den.length]
theorem qRow_eq (t : QT) : qRow t = [.lit (.bool t.r.neg), .os t.m 0 t.r.mag.length, .os t.d 0 t.r.den.length] := rfl

/-- The blocks of such fractions: between lo and hi, no two the same. -/
structure QOk (σ : St) (lo hi id : Nat) (T : List QT) : Prop where
  each : ∀ t ∈ T, (lo ≤ t.m ∧ t.m < hi ∧ t.m ≠ id) ∧ (lo ≤ t.d ∧ t.d < hi ∧ t.d ≠ id) ∧ t.m ≠ t.d ∧ σ.h t.m = bl intRow 1 t.r.mag ∧ σ.h t.d = bl intRow 1 t.r.den
  apart : T.Pairwise fun t u => t.m ≠ u.m ∧ t.m ≠ u.d ∧ t.d ≠ u.m ∧ t.d ≠ u.d
  id1 : lo ≤ id
  id2 : id < hi
structure QB (σ : St) (lo hi id : Nat) (T : List QT) : Prop where
  ok : QOk σ lo hi id T
  rows : σ.h id = .deep 3 (T.map qRow)
  n : hi ≤ σ.n

theorem QOk.congr {σ σ' : St} {lo hi id : Nat} {T : List QT} (h : QOk σ lo hi id T) (hs : ∀ t ∈ T, σ'.h t.m = σ.h t.m ∧ σ'.h t.d = σ.h t.d) : QOk σ' lo hi id T :=
  ⟨fun t ht => by obtain ⟨a, b, c, d, e⟩ := h.each t ht; obtain ⟨p, q⟩ := hs t ht; exact ⟨a, b, c, by rw [p, d], by rw [q, e]⟩, h.apart, h.id1, h.id2⟩
theorem QB.congr {σ σ' : St} {lo hi id : Nat} {T : List QT} (h : QB σ lo hi id T) (hn : σ.n ≤ σ'.n) (hs : ∀ k, lo ≤ k → k < hi → NoPsB (σ.h k) → σ'.h k = σ.h k) : QB σ' lo hi id T := by
  refine ⟨h.ok.congr fun t ht => ?_, ?_, Nat.le_trans h.n hn⟩
  · obtain ⟨⟨a1, a2, a3⟩, ⟨b1, b2, b3⟩, c, d, e⟩ := h.ok.each t ht
    refine ⟨hs _ a1 a2 ?_, hs _ b1 b2 ?_⟩
    · rw [d]; intro row hr a ha
      obtain ⟨x, _, rfl⟩ := List.mem_map.1 hr
      simp [intRow] at ha; subst ha; exact .lit
    · rw [e]; intro row hr a ha
      obtain ⟨x, _, rfl⟩ := List.mem_map.1 hr
      simp [intRow] at ha; subst ha; exact .lit
  · rw [hs id h.ok.id1 h.ok.id2 ?_, h.rows]
    rw [h.rows]; intro row hr a ha
    obtain ⟨x, _, rfl⟩ := List.mem_map.1 hr
    simp [qRow] at ha; rcases ha with rfl | rfl | rfl
    · exact .lit
    · exact .os
    · exact .os

theorem Old.get {σ σ' : St} {k : Nat} {B : Blk} (h : Old σ σ') (hk : k < σ.n) (hB : σ.h k = B) : σ'.h k = B := (h.2 k hk).trans hB
theorem Old.le {σ σ' : St} {k : Nat} (h : Old σ σ') (hk : k ≤ σ.n) : k ≤ σ'.n := Nat.le_trans hk h.1

theorem deep_step {R M : List (List AV)} {i : Nat} {row cells : List AV} (hi : i < R.length) (hM : M.length = i) (hT : R.take i = M) (hrow : row = cells) : (R.set i row).take (i + 1) = M ++ [cells] := by
  rw [List.take_succ_eq_append_getElem (by simpa using hi)]
  simp [List.take_set_of_le, hT, hrow]
theorem deep_drop {R : List (List AV)} {wd : Nat} (hR : ∀ row ∈ R, row.length = wd) (i : Nat) : (R.getD i []).drop wd = [] := by
  by_cases hi : i < R.length
  · have h1 : (R.getD i []).length = wd := by
      simp only [List.getD, List.getElem?_eq_getElem hi]
      exact hR _ (List.getElem_mem hi)
    rw [List.drop_of_length_le (by omega)]
  · simp [List.getD, List.getElem?_eq_none (by omega : R.length ≤ i)]
theorem deep_set_len {R : List (List AV)} {i wd : Nat} (hR : ∀ row ∈ R, row.length = wd) (l : List AV) (hl : l.length = wd) : ∀ row ∈ R.set i l, row.length = wd := fun row hr => by
  rcases List.mem_or_eq_of_mem_set hr with h | h
  · exact hR _ h
  · rw [h]; exact hl

set_option maxRecDepth 100000 in
set_option maxHeartbeats 1000000 in
theorem toInts_own (l : List Int) (hl : l.length ≤ 2000000) (e : Env) (σ : St) (K : KT) (h : ∀ σ' k, Old σ σ' → σ.n ≤ k → k < σ'.n → σ'.h k = bl intRow 1 l → K (.os k 0 l.length) e σ') : ACall Tryz.prog 22 [ints l] e σ K := by
  refine ACall.bareW Tryz.func22 rfl Tryz.ntmps22 Tryz.results22 rfl rfl rfl ?_
  simp -implicitDefEqProofs (disch := (first | omega | (simp only [go_sem] <;> omega) | fail)) only [go_sem, simprocAttr]
  refine Sat.loopW (fun (t : Nat) e' σ' => ∃ (i k : Nat) (L : List Int), t = l.length - i ∧ i ≤ l.length ∧ e' 0 = sl intRow l ∧ e' 3 = .os k 0 l.length ∧ e' 4 = .lit (.int .i64 (i : Nat)) ∧
    σ.n ≤ k ∧ k < σ'.n ∧ σ'.h k = bl intRow 1 L ∧ Old σ σ' ∧ L.length = l.length ∧ L.take i = l.take i) (fun t => t) l.length rfl ?_ ?_
  · simp -implicitDefEqProofs (disch := (first | omega | (simp only [go_sem] <;> omega) | fail)) only [go_sem, simprocAttr]
    exact ⟨0, σ.n, List.replicate l.length 0, by omega, by omega, rfl, rfl, by omega, by omega, by simp -implicitDefEqProofs (disch := (first | omega | (simp only [go_sem] <;> omega) | fail)) only [go_sem, simprocAttr], by simp, by simp⟩
  rintro t e1 σ1 ⟨i, k, L, rfl, hi, h0, h3, h4, hk, hkn, hB, hO, hL, hT⟩
  by_cases hlt : i < l.length
  · have hlt' : (i : Int) < l.length := by omega
    have hx := getD_elem l i hlt 0
    simp -implicitDefEqProofs (disch := (first | omega | (simp only [go_sem] <;> omega) | fail)) only [go_sem, simprocAttr, h0, h3, h4, hlt', getD_int, hx, hB, wrap_i64]
    refine ⟨l.length - (i + 1), by omega, i + 1, k, L.set i l[i], rfl, by omega, rfl, rfl, hk, by omega, by simp -implicitDefEqProofs (disch := (first | omega | (simp only [go_sem] <;> omega) | fail)) only [go_sem, simprocAttr], by simp -implicitDefEqProofs (disch := (first | omega | (simp only [go_sem] <;> omega) | fail)) only [go_sem, simprocAttr, hO], by simpa using hL, ?_⟩
    exact take_set_step (by omega) hlt rfl hT
  · have hlt' : ¬ (i : Int) < l.length := by omega
    have hie : i = l.length := by omega
    subst hie
    rw [List.take_of_length_le (by omega), List.take_of_length_le (by simp)] at hT
    subst hT
    simp -implicitDefEqProofs (disch := (first | omega | (simp only [go_sem] <;> omega) | fail)) only [go_sem, simprocAttr, h0, h3, h4, hlt']
    exact h σ1 k hO hk hkn hB

set_option maxRecDepth 100000 in
set_option maxHeartbeats 1000000 in
theorem toBig_own (neg : Bool) (l : List Int) (hm : l.length ≤ 2000000) (e : Env) (σ : St) (K : KT) (h : ∀ σ' k, Old σ σ' → σ.n ≤ k → k < σ'.n → σ'.h k = bl intRow 1 l → K (.agg [.lit (.bool neg), .os k 0 l.length]) e σ') : ACall Tryz.prog 104 [.agg [.lit (.bool neg), ints l]] e σ K := by
  refine ACall.bareW Tryz.func104 rfl Tryz.ntmps104 Tryz.results104 rfl rfl rfl ?_
  simp -implicitDefEqProofs (disch := (first | omega | (simp only [go_sem] <;> omega) | fail)) only [go_sem, simprocAttr]
  refine callF.plain (toInts_own l hm _ _ _ fun σ1 k hO hk hkn hB => ?_)
  have hn1 := hO.le (k := σ.n + 1 + 1 + 1) (by first | omega | (simp -implicitDefEqProofs (disch := (first | omega | (simp only [go_sem] <;> omega) | fail)) only [go_sem, simprocAttr]; omega))
  have hb1 := hO.get (k := σ.n + 1) (by first | omega | (simp -implicitDefEqProofs (disch := (first | omega | (simp only [go_sem] <;> omega) | fail)) only [go_sem, simprocAttr]; omega)) (by simp -implicitDefEqProofs (disch := (first | omega | (simp only [go_sem] <;> omega) | fail)) only [go_sem, simprocAttr]; rfl)
  have hb2 := hO.get (k := σ.n + 1 + 1) (by first | omega | (simp -implicitDefEqProofs (disch := (first | omega | (simp only [go_sem] <;> omega) | fail)) only [go_sem, simprocAttr]; omega)) (by simp -implicitDefEqProofs (disch := (first | omega | (simp only [go_sem] <;> omega) | fail)) only [go_sem, simprocAttr]; rfl)
  have hO' : Old σ σ1 := Old.trans (by simp -implicitDefEqProofs (disch := (first | omega | (simp only [go_sem] <;> omega) | fail)) only [go_sem, simprocAttr]) hO
  have hk' : σ.n + 1 + 1 + 1 ≤ k := Nat.le_trans (by first | omega | (simp -implicitDefEqProofs (disch := (first | omega | (simp only [go_sem] <;> omega) | fail)) only [go_sem, simprocAttr]; omega)) hk
  simp -implicitDefEqProofs (disch := (first | omega | (simp only [go_sem] <;> omega) | fail)) only [go_sem, simprocAttr, hb1, hb2]
  exact h _ k (by simp -implicitDefEqProofs (disch := (first | omega | (simp only [go_sem] <;> omega) | fail)) only [go_sem, simprocAttr, hO']) (by omega) (by first | omega | (simp -implicitDefEqProofs (disch := (first | omega | (simp only [go_sem] <;> omega) | fail)) only [go_sem, simprocAttr]; omega)) (by simp -implicitDefEqProofs (disch := (first | omega | (simp only [go_sem] <;> omega) | fail)) only [go_sem, simprocAttr, hB])

set_option maxRecDepth 100000 in
set_option maxHeartbeats 1000000 in
theorem toRat_own (r : RV) (hr : toRat_pre r) (e : Env) (σ : St) (K : KT) (h : ∀ σ' m d, Old σ σ' → σ.n ≤ m → m < σ'.n → σ.n ≤ d → d < σ'.n → m ≠ d → σ'.h m = bl intRow 1 r.mag → σ'.h d = bl intRow 1 r.den → K (.agg (qRow ⟨r, m, d⟩)) e σ') : ACall Tryz.prog 51 [ratV r] e σ K := by
  unfold ratV
  unfold qRow at h
  refine ACall.bareW Tryz.func51 rfl Tryz.ntmps51 Tryz.results51 rfl rfl rfl ?_
  simp -implicitDefEqProofs (disch := (first | omega | (simp only [go_sem] <;> omega) | fail)) only [go_sem, simprocAttr]
  refine callF.plain (toBig_own r.neg r.mag hr.1 _ _ _ fun σ1 k hO hk hkn hB => ?_)
  have hn1 := hO.le (k := σ.n + 1 + 1 + 1) (by first | omega | (simp -implicitDefEqProofs (disch := (first | omega | (simp only [go_sem] <;> omega) | fail)) only [go_sem, simprocAttr]; omega))
  have hb0 := hO.get (k := σ.n) (by first | omega | (simp -implicitDefEqProofs (disch := (first | omega | (simp only [go_sem] <;> omega) | fail)) only [go_sem, simprocAttr]; omega)) (by simp -implicitDefEqProofs (disch := (first | omega | (simp only [go_sem] <;> omega) | fail)) only [go_sem, simprocAttr]; rfl)
  have hb1 := hO.get (k := σ.n + 1) (by first | omega | (simp -implicitDefEqProofs (disch := (first | omega | (simp only [go_sem] <;> omega) | fail)) only [go_sem, simprocAttr]; omega)) (by simp -implicitDefEqProofs (disch := (first | omega | (simp only [go_sem] <;> omega) | fail)) only [go_sem, simprocAttr]; rfl)
  have hb2 := hO.get (k := σ.n + 1 + 1) (by first | omega | (simp -implicitDefEqProofs (disch := (first | omega | (simp only [go_sem] <;> omega) | fail)) only [go_sem, simprocAttr]; omega)) (by simp -implicitDefEqProofs (disch := (first | omega | (simp only [go_sem] <;> omega) | fail)) only [go_sem, simprocAttr]; rfl)
  have hO' : Old σ σ1 := Old.trans (by simp -implicitDefEqProofs (disch := (first | omega | (simp only [go_sem] <;> omega) | fail)) only [go_sem, simprocAttr]) hO
  have hk' : σ.n + 1 + 1 + 1 ≤ k := Nat.le_trans (by first | omega | (simp -implicitDefEqProofs (disch := (first | omega | (simp only [go_sem] <;> omega) | fail)) only [go_sem, simprocAttr]; omega)) hk
  clear hO hk
  simp -implicitDefEqProofs (disch := (first | omega | (simp only [go_sem] <;> omega) | fail)) only [go_sem, simprocAttr, hb0, hb1, hb2]
  refine callF.plain (toInts_own r.den hr.2 _ _ _ fun σ2 d hO2 hd hdn hD => ?_)
  have hn2 := hO2.le (k := σ1.n) (by first | omega | (simp -implicitDefEqProofs (disch := (first | omega | (simp only [go_sem] <;> omega) | fail)) only [go_sem, simprocAttr]; omega))
  have hc1 := hO2.get (k := σ.n + 1) (by first | omega | (simp -implicitDefEqProofs (disch := (first | omega | (simp only [go_sem] <;> omega) | fail)) only [go_sem, simprocAttr]; omega)) (by simp -implicitDefEqProofs (disch := (first | omega | (simp only [go_sem] <;> omega) | fail)) only [go_sem, simprocAttr, hb1]; rfl)
  have hc2 := hO2.get (k := σ.n + 1 + 1) (by first | omega | (simp -implicitDefEqProofs (disch := (first | omega | (simp only [go_sem] <;> omega) | fail)) only [go_sem, simprocAttr]; omega)) (by simp -implicitDefEqProofs (disch := (first | omega | (simp only [go_sem] <;> omega) | fail)) only [go_sem, simprocAttr, hb2]; rfl)
  have hcB := hO2.get (k := k) (by first | omega | (simp -implicitDefEqProofs (disch := (first | omega | (simp only [go_sem] <;> omega) | fail)) only [go_sem, simprocAttr]; omega)) (by simp -implicitDefEqProofs (disch := (first | omega | (simp only [go_sem] <;> omega) | fail)) only [go_sem, simprocAttr, hB]; rfl)
  have hO2' : Old σ σ2 := Old.trans (by simp -implicitDefEqProofs (disch := (first | omega | (simp only [go_sem] <;> omega) | fail)) only [go_sem, simprocAttr, hO']) hO2
  have hd' : σ1.n ≤ d := Nat.le_trans (by first | omega | (simp -implicitDefEqProofs (disch := (first | omega | (simp only [go_sem] <;> omega) | fail)) only [go_sem, simprocAttr]; omega)) hd
  clear hO2 hd
  simp -implicitDefEqProofs (disch := (first | omega | (simp only [go_sem] <;> omega) | fail)) only [go_sem, simprocAttr, hc1, hc2]
  exact h _ k d (by simp -implicitDefEqProofs (disch := (first | omega | (simp only [go_sem] <;> omega) | fail)) only [go_sem, simprocAttr, hO2']) (by omega) (by first | omega | (simp -implicitDefEqProofs (disch := (first | omega | (simp only [go_sem] <;> omega) | fail)) only [go_sem, simprocAttr]; omega)) (by omega) (by first | omega | (simp -implicitDefEqProofs (disch := (first | omega | (simp only [go_sem] <;> omega) | fail)) only [go_sem, simprocAttr]; omega)) (by omega) (by simp -implicitDefEqProofs (disch := (first | omega | (simp only [go_sem] <;> omega) | fail)) only [go_sem, simprocAttr, hcB]) (by simp -implicitDefEqProofs (disch := (first | omega | (simp only [go_sem] <;> omega) | fail)) only [go_sem, simprocAttr, hD])

theorem QOk.mono {σ : St} {lo hi lo' hi' id : Nat} {T : List QT} (h : QOk σ lo hi id T) (h1 : lo' ≤ lo) (h2 : hi ≤ hi') : QOk σ lo' hi' id T :=
  ⟨fun t ht => by obtain ⟨a, b, c⟩ := h.each t ht; exact ⟨⟨by omega, by omega, a.2.2⟩, ⟨by omega, by omega, b.2.2⟩, c⟩, h.apart, by have := h.id1; omega, by have := h.id2; omega⟩
theorem QOk.snoc {σ : St} {lo hi hi' id : Nat} {T : List QT} {t : QT} (h : QOk σ lo hi id T) (h1 : hi ≤ t.m) (h2 : t.m < hi') (h3 : hi ≤ t.d) (h4 : t.d < hi') (h5 : t.m ≠ t.d) (h6 : σ.h t.m = bl intRow 1 t.r.mag) (h7 : σ.h t.d = bl intRow 1 t.r.den) : QOk σ lo hi' id (T ++ [t]) := by
  have := h.id1
  have := h.id2
  refine ⟨fun u hu => ?_, ?_, by omega, by omega⟩
  · rcases List.mem_append.1 hu with hu | hu
    · obtain ⟨a, b, c⟩ := h.each u hu; exact ⟨⟨by omega, by omega, a.2.2⟩, ⟨by omega, by omega, b.2.2⟩, c⟩
    · rw [List.mem_singleton.1 hu]; exact ⟨⟨by omega, by omega, by omega⟩, ⟨by omega, by omega, by omega⟩, h5, h6, h7⟩
  · rw [List.pairwise_append]
    refine ⟨h.apart, by simp, fun u hu w hw => ?_⟩
    rw [List.mem_singleton.1 hw]
    obtain ⟨a, b, c⟩ := h.each u hu
    omega

set_option maxRecDepth 100000 in
set_option maxHeartbeats 1000000 in
theorem toRats_own (l : List RV) (hl : l.length ≤ 2000000) (hsh : ∀ x ∈ l, toRat_pre x) (e : Env) (σ : St) (K : KT) (h : ∀ σ' k T, Old σ σ' → T.map QT.r = l → QB σ' σ.n σ'.n k T → K (.os k 0 l.length) e σ') : ACall Tryz.prog 14 [sl ratRow l] e σ K := by
  refine ACall.bareW Tryz.func14 rfl Tryz.ntmps14 Tryz.results14 rfl rfl rfl ?_
  simp -implicitDefEqProofs (disch := (first | omega | (simp only [go_sem] <;> omega) | fail)) only [go_sem, simprocAttr]
  refine Sat.deep σ.n 3 ((List.replicate l.length (none : Option RV)).map ratRowO) (by simp -implicitDefEqProofs (disch := (first | omega | (simp only [go_sem] <;> omega) | fail)) only [go_sem, simprocAttr]) ?_
  refine Sat.loopW (fun (t : Nat) e' σ' => ∃ (i k : Nat) (R : List (List AV)) (T : List QT), t = l.length - i ∧ i ≤ l.length ∧ e' 0 = sl ratRow l ∧ e' 3 = .os k 0 l.length ∧ e' 4 = .lit (.int .i64 (i : Nat)) ∧
    k < σ'.n ∧ σ'.h k = .deep 3 R ∧ Old σ σ' ∧ R.length = l.length ∧ (∀ row ∈ R, row.length = 3) ∧ R.take i = T.map qRow ∧ T.map QT.r = l.take i ∧ QOk σ' σ.n σ'.n k T) (fun t => t) l.length rfl ?_ ?_
  · simp -implicitDefEqProofs (disch := (first | omega | (simp only [go_sem] <;> omega) | fail)) only [go_sem, simprocAttr]
    refine ⟨0, σ.n, (List.replicate l.length (none : Option RV)).map ratRowO, [], by omega, by omega, rfl, rfl, by omega, by simp -implicitDefEqProofs (disch := (first | omega | (simp only [go_sem] <;> omega) | fail)) only [go_sem, simprocAttr], by simp, fun row hr => ?_, by simp, by simp, ⟨by simp, by simp, by omega, (by first | omega | (simp -implicitDefEqProofs (disch := (first | omega | (simp only [go_sem] <;> omega) | fail)) only [go_sem, simprocAttr]; omega))⟩⟩
    obtain ⟨x, hx, rfl⟩ := List.mem_map.1 hr
    cases x <;> rfl
  rintro t e1 σ1 ⟨i, k, R, T, rfl, hi, h0, h3, h4, hkn, hB, hO, hR, hR3, hT, hTl, hQ⟩
  have hOn := hO.1
  have hTn : T.length = i := by have := congrArg List.length hTl; simpa [Nat.min_eq_left hi] using this
  by_cases hlt : i < l.length
  · have hlt' : (i : Int) < l.length := by omega
    have hx := getD_elem l i hlt default
    obtain ⟨x, hxe⟩ : ∃ x, l[i] = x := ⟨_, rfl⟩
    have hpre := hsh _ (List.getElem_mem hlt)
    rw [hxe] at hx hpre
    simp -implicitDefEqProofs (disch := (first | omega | (simp only [go_sem] <;> omega) | fail)) only [go_sem, simprocAttr, h0, h3, h4, hlt', hx, ratRow_eq]
    refine callF.plain (toRat_own x hpre _ _ _ fun σ2 m d hO2 hm hmn hd hdn hmd hM hD => ?_)
    have hB2 := hO2.get hkn hB
    have hkn2 := hO2.le hkn
    have hO' := hO.trans hO2
    have hdr := deep_drop hR3 i
    have hk1 := hQ.id1
    have hsame : ∀ j, j ≠ k → ∀ B, (σ2.put k B).h j = σ2.h j := fun j hj B => by simp [St.put, hj]
    rw [qRow_eq]
    simp -implicitDefEqProofs (disch := (first | omega | (simp only [go_sem] <;> omega) | fail)) only [go_sem, simprocAttr, h0, h3, h4, hB2, wrap_i64, hdr]
    refine ⟨l.length - (i + 1), by omega, i + 1, k, R.set i (qRow ⟨x, m, d⟩), T ++ [⟨x, m, d⟩], rfl, by omega, rfl, rfl, by omega, ?_, by simp -implicitDefEqProofs (disch := (first | omega | (simp only [go_sem] <;> omega) | fail)) only [go_sem, simprocAttr, hO'], by simpa using hR, deep_set_len hR3 _ rfl, ?_, ?_, ?_⟩
    · rw [qRow_eq]; simp -implicitDefEqProofs (disch := (first | omega | (simp only [go_sem] <;> omega) | fail)) only [go_sem, simprocAttr]
    · rw [deep_step (by omega) (by simpa using hTn) hT rfl]; simp
    · rw [List.take_succ_eq_append_getElem hlt]; simp [hTl, hxe]
    · refine (hQ.congr fun u hu => ?_).snoc hm hmn hd hdn hmd ?_ ?_
      · obtain ⟨a, b, c⟩ := hQ.each u hu
        rw [hsame _ a.2.2, hsame _ b.2.2]
        exact ⟨hO2.2 _ a.2.1, hO2.2 _ b.2.1⟩
      · rw [hsame _ (by have : m ≠ k := by omega
                        exact this)]; exact hM
      · rw [hsame _ (by have : d ≠ k := by omega
                        exact this)]; exact hD
  · have hlt' : ¬ (i : Int) < l.length := by omega
    have hie : i = l.length := by omega
    subst hie
    rw [List.take_of_length_le (by omega)] at hT
    rw [List.take_of_length_le (by omega)] at hTl
    simp -implicitDefEqProofs (disch := (first | omega | (simp only [go_sem] <;> omega) | fail)) only [go_sem, simprocAttr, h0, h3, h4, hlt']
    exact h _ k T hO hTl ⟨hQ, by rw [hB, hT], Nat.le_refl _⟩
set_option maxRecDepth 100000 in
set_option maxHeartbeats 1000000 in
theorem toJoints_own (l : List JV) (hl : l.length ≤ 2000000) (hsh : ∀ x ∈ l, toJoint_pre x) (e : Env) (σ : St) (K : KT) (h : ∀ σ' k, Old σ σ' → σ.n ≤ k → k < σ'.n → σ'.h k = bl jointRow 4 l → K (.os k 0 l.length) e σ') : ACall Tryz.prog 49 [sl jointRow l] e σ K := by
  refine ACall.bareW Tryz.func49 rfl Tryz.ntmps49 Tryz.results49 rfl rfl rfl ?_
  simp -implicitDefEqProofs (disch := (first | omega | (simp only [go_sem] <;> omega) | fail)) only [go_sem, simprocAttr]
  refine Sat.loopW (fun (t : Nat) e' σ' => ∃ (i k : Nat) (L : List JV), t = l.length - i ∧ i ≤ l.length ∧ e' 0 = sl jointRow l ∧ e' 3 = .os k 0 l.length ∧ e' 4 = .lit (.int .i64 (i : Nat)) ∧
    σ.n ≤ k ∧ k < σ'.n ∧ σ'.h k = bl jointRow 4 L ∧ Old σ σ' ∧ L.length = l.length ∧ L.take i = l.take i) (fun t => t) l.length rfl ?_ ?_
  · simp -implicitDefEqProofs (disch := (first | omega | (simp only [go_sem] <;> omega) | fail)) only [go_sem, simprocAttr]
    exact ⟨0, σ.n, List.replicate l.length ⟨⟨#[]⟩, 0, 0, false⟩, by omega, by omega, rfl, rfl, by omega, by omega, by simp -implicitDefEqProofs (disch := (first | omega | (simp only [go_sem] <;> omega) | fail)) only [go_sem, simprocAttr], by simp, by simp⟩
  rintro t e1 σ1 ⟨i, k, L, rfl, hi, h0, h3, h4, hk, hkn, hB, hO, hL, hT⟩
  have hOn := hO.1
  by_cases hlt : i < l.length
  · have hlt' : (i : Int) < l.length := by omega
    have hx := getD_elem l i hlt default
    obtain ⟨x, hxe⟩ : ∃ x, l[i] = x := ⟨_, rfl⟩
    have hpre := hsh _ (List.getElem_mem hlt)
    rw [hxe] at hx hpre
    simp -implicitDefEqProofs (disch := (first | omega | (simp only [go_sem] <;> omega) | fail)) only [go_sem, simprocAttr, h0, h3, h4, hlt', hx, jointRow_eq]
    refine callF.plain (toJoint_ok x hpre _ _ _ ?_)
    unfold jointV
    simp -implicitDefEqProofs (disch := (first | omega | (simp only [go_sem] <;> omega) | fail)) only [go_sem, simprocAttr, h0, h3, h4, hB, wrap_i64]
    refine ⟨l.length - (i + 1), by omega, i + 1, k, L.set i x, rfl, by omega, rfl, rfl, hk, by omega, by simp -implicitDefEqProofs (disch := (first | omega | (simp only [go_sem] <;> omega) | fail)) only [go_sem, simprocAttr], by simp -implicitDefEqProofs (disch := (first | omega | (simp only [go_sem] <;> omega) | fail)) only [go_sem, simprocAttr, hO], by simpa using hL, ?_⟩
    exact take_set_step (by omega) (by simpa using hlt) (by simp [hxe]) hT
  · have hlt' : ¬ (i : Int) < l.length := by omega
    have hie : i = l.length := by omega
    subst hie
    rw [List.take_of_length_le (by omega), List.take_of_length_le (by simp)] at hT
    subst hT
    simp -implicitDefEqProofs (disch := (first | omega | (simp only [go_sem] <;> omega) | fail)) only [go_sem, simprocAttr, h0, h3, h4, hlt']
    exact h σ1 k hO hk hkn hB

set_option maxRecDepth 100000 in
set_option maxHeartbeats 1000000 in
theorem toMems_own (l : List MV) (hl : l.length ≤ 2000000) (hsh : ∀ x ∈ l, toMem_pre x) (e : Env) (σ : St) (K : KT) (h : ∀ σ' k, Old σ σ' → σ.n ≤ k → k < σ'.n → σ'.h k = bl memRow 3 l → K (.os k 0 l.length) e σ') : ACall Tryz.prog 50 [sl memRow l] e σ K := by
  refine ACall.bareW Tryz.func50 rfl Tryz.ntmps50 Tryz.results50 rfl rfl rfl ?_
  simp -implicitDefEqProofs (disch := (first | omega | (simp only [go_sem] <;> omega) | fail)) only [go_sem, simprocAttr]
  refine Sat.loopW (fun (t : Nat) e' σ' => ∃ (i k : Nat) (L : List MV), t = l.length - i ∧ i ≤ l.length ∧ e' 0 = sl memRow l ∧ e' 3 = .os k 0 l.length ∧ e' 4 = .lit (.int .i64 (i : Nat)) ∧
    σ.n ≤ k ∧ k < σ'.n ∧ σ'.h k = bl memRow 3 L ∧ Old σ σ' ∧ L.length = l.length ∧ L.take i = l.take i) (fun t => t) l.length rfl ?_ ?_
  · simp -implicitDefEqProofs (disch := (first | omega | (simp only [go_sem] <;> omega) | fail)) only [go_sem, simprocAttr]
    exact ⟨0, σ.n, List.replicate l.length ⟨0, 0, 0⟩, by omega, by omega, rfl, rfl, by omega, by omega, by simp -implicitDefEqProofs (disch := (first | omega | (simp only [go_sem] <;> omega) | fail)) only [go_sem, simprocAttr], by simp, by simp⟩
  rintro t e1 σ1 ⟨i, k, L, rfl, hi, h0, h3, h4, hk, hkn, hB, hO, hL, hT⟩
  have hOn := hO.1
  by_cases hlt : i < l.length
  · have hlt' : (i : Int) < l.length := by omega
    have hx := getD_elem l i hlt default
    obtain ⟨x, hxe⟩ : ∃ x, l[i] = x := ⟨_, rfl⟩
    have hpre := hsh _ (List.getElem_mem hlt)
    rw [hxe] at hx hpre
    simp -implicitDefEqProofs (disch := (first | omega | (simp only [go_sem] <;> omega) | fail)) only [go_sem, simprocAttr, h0, h3, h4, hlt', hx, memRow_eq]
    refine callF.plain (toMem_ok x hpre _ _ _ ?_)
    unfold memV
    simp -implicitDefEqProofs (disch := (first | omega | (simp only [go_sem] <;> omega) | fail)) only [go_sem, simprocAttr, h0, h3, h4, hB, wrap_i64]
    refine ⟨l.length - (i + 1), by omega, i + 1, k, L.set i x, rfl, by omega, rfl, rfl, hk, by omega, by simp -implicitDefEqProofs (disch := (first | omega | (simp only [go_sem] <;> omega) | fail)) only [go_sem, simprocAttr], by simp -implicitDefEqProofs (disch := (first | omega | (simp only [go_sem] <;> omega) | fail)) only [go_sem, simprocAttr, hO], by simpa using hL, ?_⟩
    exact take_set_step (by omega) (by simpa using hlt) (by simp [hxe]) hT
  · have hlt' : ¬ (i : Int) < l.length := by omega
    have hie : i = l.length := by omega
    subst hie
    rw [List.take_of_length_le (by omega), List.take_of_length_le (by simp)] at hT
    subst hT
    simp -implicitDefEqProofs (disch := (first | omega | (simp only [go_sem] <;> omega) | fail)) only [go_sem, simprocAttr, h0, h3, h4, hlt']
    exact h σ1 k hO hk hkn hB

/-- A structure in own blocks. -/
def ownS (v : SV) (a b : Nat) : AV := .agg [.os a 0 v.joints.length, .os b 0 v.members.length]
structure SB (σ : St) (lo hi a b : Nat) (v : SV) : Prop where
  a1 : lo ≤ a
  a2 : a < hi
  b1 : lo ≤ b
  b2 : b < hi
  ab : a ≠ b
  js : σ.h a = bl jointRow 4 v.joints
  ms : σ.h b = bl memRow 3 v.members
  n : hi ≤ σ.n

set_option maxRecDepth 100000 in
set_option maxHeartbeats 1000000 in
theorem toStruct_own (v : SV) (h1 : v.joints.length ≤ 2000000) (h2 : v.members.length ≤ 2000000) (e : Env) (σ : St) (K : KT) (h : ∀ σ' a b, Old σ σ' → SB σ' σ.n σ'.n a b v → K (ownS v a b) e σ') : ACall Tryz.prog 13 [structV v] e σ K := by
  unfold structV
  unfold ownS at h
  refine ACall.bareW Tryz.func13 rfl Tryz.ntmps13 Tryz.results13 rfl rfl rfl ?_
  simp -implicitDefEqProofs (disch := (first | omega | (simp only [go_sem] <;> omega) | fail)) only [go_sem, simprocAttr]
  refine callF.plain (toJoints_own v.joints h1 (fun _ _ => trivial) _ _ _ fun σ1 k hO hk hkn hB => ?_)
  have hn1 := hO.le (k := σ.n + 1 + 1 + 1) (by first | omega | (simp -implicitDefEqProofs (disch := (first | omega | (simp only [go_sem] <;> omega) | fail)) only [go_sem, simprocAttr]; omega))
  have hb0 := hO.get (k := σ.n) (by first | omega | (simp -implicitDefEqProofs (disch := (first | omega | (simp only [go_sem] <;> omega) | fail)) only [go_sem, simprocAttr]; omega)) (by simp -implicitDefEqProofs (disch := (first | omega | (simp only [go_sem] <;> omega) | fail)) only [go_sem, simprocAttr]; rfl)
  have hb1 := hO.get (k := σ.n + 1) (by first | omega | (simp -implicitDefEqProofs (disch := (first | omega | (simp only [go_sem] <;> omega) | fail)) only [go_sem, simprocAttr]; omega)) (by simp -implicitDefEqProofs (disch := (first | omega | (simp only [go_sem] <;> omega) | fail)) only [go_sem, simprocAttr]; rfl)
  have hb2 := hO.get (k := σ.n + 1 + 1) (by first | omega | (simp -implicitDefEqProofs (disch := (first | omega | (simp only [go_sem] <;> omega) | fail)) only [go_sem, simprocAttr]; omega)) (by simp -implicitDefEqProofs (disch := (first | omega | (simp only [go_sem] <;> omega) | fail)) only [go_sem, simprocAttr]; rfl)
  have hO' : Old σ σ1 := Old.trans (by simp -implicitDefEqProofs (disch := (first | omega | (simp only [go_sem] <;> omega) | fail)) only [go_sem, simprocAttr]) hO
  have hk' : σ.n + 1 + 1 + 1 ≤ k := Nat.le_trans (by first | omega | (simp -implicitDefEqProofs (disch := (first | omega | (simp only [go_sem] <;> omega) | fail)) only [go_sem, simprocAttr]; omega)) hk
  clear hO hk
  simp -implicitDefEqProofs (disch := (first | omega | (simp only [go_sem] <;> omega) | fail)) only [go_sem, simprocAttr, hb0, hb1, hb2]
  refine callF.plain (toMems_own v.members h2 (fun _ _ => trivial) _ _ _ fun σ2 d hO2 hd hdn hD => ?_)
  have hn2 := hO2.le (k := σ1.n) (by first | omega | (simp -implicitDefEqProofs (disch := (first | omega | (simp only [go_sem] <;> omega) | fail)) only [go_sem, simprocAttr]; omega))
  have hc1 := hO2.get (k := σ.n + 1) (by first | omega | (simp -implicitDefEqProofs (disch := (first | omega | (simp only [go_sem] <;> omega) | fail)) only [go_sem, simprocAttr]; omega)) (by simp -implicitDefEqProofs (disch := (first | omega | (simp only [go_sem] <;> omega) | fail)) only [go_sem, simprocAttr, hb1]; rfl)
  have hc2 := hO2.get (k := σ.n + 1 + 1) (by first | omega | (simp -implicitDefEqProofs (disch := (first | omega | (simp only [go_sem] <;> omega) | fail)) only [go_sem, simprocAttr]; omega)) (by simp -implicitDefEqProofs (disch := (first | omega | (simp only [go_sem] <;> omega) | fail)) only [go_sem, simprocAttr, hb2]; rfl)
  have hcB := hO2.get (k := k) (by first | omega | (simp -implicitDefEqProofs (disch := (first | omega | (simp only [go_sem] <;> omega) | fail)) only [go_sem, simprocAttr]; omega)) (by simp -implicitDefEqProofs (disch := (first | omega | (simp only [go_sem] <;> omega) | fail)) only [go_sem, simprocAttr, hB]; rfl)
  have hO2' : Old σ σ2 := Old.trans (by simp -implicitDefEqProofs (disch := (first | omega | (simp only [go_sem] <;> omega) | fail)) only [go_sem, simprocAttr, hO']) hO2
  have hd' : σ1.n ≤ d := Nat.le_trans (by first | omega | (simp -implicitDefEqProofs (disch := (first | omega | (simp only [go_sem] <;> omega) | fail)) only [go_sem, simprocAttr]; omega)) hd
  clear hO2 hd
  simp -implicitDefEqProofs (disch := (first | omega | (simp only [go_sem] <;> omega) | fail)) only [go_sem, simprocAttr, hc1, hc2]
  exact h _ k d (by simp -implicitDefEqProofs (disch := (first | omega | (simp only [go_sem] <;> omega) | fail)) only [go_sem, simprocAttr, hO2']) ⟨by omega, (by first | omega | (simp -implicitDefEqProofs (disch := (first | omega | (simp only [go_sem] <;> omega) | fail)) only [go_sem, simprocAttr]; omega)), by omega, (by first | omega | (simp -implicitDefEqProofs (disch := (first | omega | (simp only [go_sem] <;> omega) | fail)) only [go_sem, simprocAttr]; omega)), by omega, by simp -implicitDefEqProofs (disch := (first | omega | (simp only [go_sem] <;> omega) | fail)) only [go_sem, simprocAttr, hcB], by simp -implicitDefEqProofs (disch := (first | omega | (simp only [go_sem] <;> omega) | fail)) only [go_sem, simprocAttr, hD], Nat.le_refl _⟩
end Go.Proofs.Qqz
