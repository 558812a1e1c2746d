/- Contracts: fractions stored in blocks of the caller's own. -/
import Derived.Test.YtanoekhdoelkbaaGreatOwb
import Derived.Test.YtanoekhdoelkbaaGreatLwb
set_option linter.unusedSimpArgs false
set_option linter.unusedVariables false
namespace Go.Proofs.Qqz
open Go

/-- Where what is quiet reads one block alone, and nothing writes it. -/
def Pin (k : Nat) (B : Blk) (s : St) : Prop := s.h k = B
@[go_sem ↓] theorem midN_pin (P : Program) (ops : Array Oper) (al late : List Nat) (i : Nat) (rest : List Oper) (R : Env → Prop) (e : Env) (op : Op) (d : Option Tmp) (k : Nat) (B : Blk) : midN P ops al late (Pin k B) i op d rest R e = exQ (fun v => ∀ s : St, opA P op e (s.put k B) (qK v (s.put k B))) fun v => midA P ops al late (Pin k B) (i + 1) rest R (putE e d v) := by
  unfold midN
  congr 1
  funext v
  apply propext
  constructor
  · intro h s; exact h _ (by simp [Pin, St.put])
  · intro h s hs
    have : s.put k B = s := by
      cases s
      simp only [Pin] at hs
      simp only [St.put, St.mk.injEq, true_and]
      funext j
      split
      · rename_i hj; rw [hj, hs]
      · rfl
    rw [← this]; exact h s
theorem Sat.drawnP {P : Program} {ops : Array Oper} {N : Nat} {e : Env} {σ : St} {id : Nat} (k : Nat) (B : Blk) (E : List Nat) (t : Tr) {Q : Exit → Env → St → Prop} (hm : P.follows .mixedOrders = true) (hB : okE N ops E t = true)
    (h : midA P ops [] E (Pin k B) 0 ops.toList (fun eM => effT P ops (Pin k B) (Q .normal) t eM σ) e) : Sat P N (.region id ops true) Q e σ := Sat.drawnL (Pin k B) E t hm hB h
@[go_sem] theorem Pin_eq (k : Nat) (B : Blk) (s : St) : Pin k B s = (s.h k = B) := rfl

set_option maxRecDepth 100000 in
set_option maxHeartbeats 1000000 in
theorem clone_own (x : List Int) (hlx : x.length ≤ 1000000) (e : Env) (σ : St) (K : KT) (h : ∀ σ' k, Old σ σ' → σ.n ≤ k → k < σ'.n → σ'.h k = bl intRow 1 x → K (.os k 0 x.length) e σ') : ACall Tryz.prog 140 [ints x] e σ K := by
  refine ACall.nilOs 1 ?_
  refine ACall.bareW Tryz.func140 rfl Tryz.ntmps140 Tryz.results140 rfl rfl rfl ?_
  simp -implicitDefEqProofs (disch := (first | omega | (simp only [go_sem] <;> omega) | fail)) only [go_sem, simprocAttr]
  intro b hb
  cases b with
  | true =>
    have := hb rfl
    subst this
    simp -implicitDefEqProofs (disch := (first | omega | (simp only [go_sem] <;> omega) | fail)) only [go_sem, simprocAttr]
    refine .inl (h _ σ.n (by simp -implicitDefEqProofs (disch := (first | omega | (simp only [go_sem] <;> omega) | fail)) only [go_sem, simprocAttr]) (by first | omega | (simp -implicitDefEqProofs (disch := (first | omega | (simp only [go_sem] <;> omega) | fail)) only [go_sem, simprocAttr]; omega)) (by first | omega | (simp -implicitDefEqProofs (disch := (first | omega | (simp only [go_sem] <;> omega) | fail)) only [go_sem, simprocAttr]; omega)) (by simp -implicitDefEqProofs (disch := (first | omega | (simp only [go_sem] <;> omega) | fail)) only [go_sem, simprocAttr]; rfl))
  | false =>
    simp -implicitDefEqProofs (disch := (first | omega | (simp only [go_sem] <;> omega) | fail)) only [go_sem, simprocAttr, cells_ok_ints]
    exact .inr (h _ (σ.n + 1) (by simp -implicitDefEqProofs (disch := (first | omega | (simp only [go_sem] <;> omega) | fail)) only [go_sem, simprocAttr]) (by omega) (by first | omega | (simp -implicitDefEqProofs (disch := (first | omega | (simp only [go_sem] <;> omega) | fail)) only [go_sem, simprocAttr]; omega)) (by simp -implicitDefEqProofs (disch := (first | omega | (simp only [go_sem] <;> omega) | fail)) only [go_sem, simprocAttr]))

set_option maxRecDepth 100000 in
set_option maxHeartbeats 1000000 in
theorem fewer_own (n : Int) (hn : (limbs n.natAbs).length ≤ 60) (e : Env) (σ : St) (K : KT) (h : ∀ σ' k, Old σ σ' → σ.n ≤ k → k < σ'.n → σ'.h k = bl intRow 1 (limbs n.natAbs) → K (.agg [.lit (.bool (decide (n < 0))), .os k 0 (limbs n.natAbs).length]) e σ') : ACall Tryz.prog 139 [bigA n] e σ K := by
  unfold bigA
  refine ACall.bareW Tryz.func139 rfl Tryz.ntmps139 Tryz.results139 rfl rfl rfl ?_
  have hn' : ¬ (60 : Int) < (limbs n.natAbs).length := by omega
  simp -implicitDefEqProofs (disch := (first | omega | (simp only [go_sem] <;> omega) | fail)) only [go_sem, simprocAttr, hn']
  refine Sat.drawnP σ.n (.deep 2 [[.lit (.bool (decide (n < 0))), sl intRow (limbs n.natAbs)]]) [4, 5, 6] (.one 4 (.one 5 (.one 6 .leaf))) mixed (by kernel_rfl) ?_
  simp -implicitDefEqProofs (disch := (first | omega | (simp only [go_sem] <;> omega) | fail)) only [go_sem, simprocAttr]
  refine clone_own (limbs n.natAbs) (by omega) _ _ _ fun σ1 k hO hk hkn hB => ?_
  have hn1 := hO.le (k := σ.n + 1 + 1) (by first | omega | (simp -implicitDefEqProofs (disch := (first | omega | (simp only [go_sem] <;> omega) | fail)) only [go_sem, simprocAttr]; omega))
  have hb0 := hO.get (k := σ.n) (by first | omega | (simp -implicitDefEqProofs (disch := (first | omega | (simp only [go_sem] <;> omega) | fail)) only [go_sem, simprocAttr]; omega)) (by simp -implicitDefEqProofs (disch := (first | omega | (simp only [go_sem] <;> omega) | fail)) only [go_sem, simprocAttr]; rfl)
  have hb1 := hO.get (k := σ.n + 1) (by first | omega | (simp -implicitDefEqProofs (disch := (first | omega | (simp only [go_sem] <;> omega) | fail)) only [go_sem, simprocAttr]; omega)) (by simp -implicitDefEqProofs (disch := (first | omega | (simp only [go_sem] <;> omega) | fail)) only [go_sem, simprocAttr]; rfl)
  have hO' : Old σ σ1 := Old.trans (by simp -implicitDefEqProofs (disch := (first | omega | (simp only [go_sem] <;> omega) | fail)) only [go_sem, simprocAttr]) hO
  have hk' : σ.n + 1 + 1 ≤ k := Nat.le_trans (by first | omega | (simp -implicitDefEqProofs (disch := (first | omega | (simp only [go_sem] <;> omega) | fail)) only [go_sem, simprocAttr]; omega)) hk
  clear hO hk
  simp -implicitDefEqProofs (disch := (first | omega | (simp only [go_sem] <;> omega) | fail)) only [go_sem, simprocAttr, hb0, hb1]
  exact h _ k (by simp -implicitDefEqProofs (disch := (first | omega | (simp only [go_sem] <;> omega) | fail)) only [go_sem, simprocAttr, hO']) (by omega) (by first | omega | (simp -implicitDefEqProofs (disch := (first | omega | (simp only [go_sem] <;> omega) | fail)) only [go_sem, simprocAttr]; omega)) (by simp -implicitDefEqProofs (disch := (first | omega | (simp only [go_sem] <;> omega) | fail)) only [go_sem, simprocAttr, hB])

set_option maxRecDepth 100000 in
set_option maxHeartbeats 1000000 in
theorem store_own (n : Int) (d : Nat) (hx : Fr.ok (some (n, d))) (e : Env) (σ : St) (K : KT) (h : ∀ σ' m dd, Old σ σ' → σ.n ≤ m → m < σ'.n → σ.n ≤ dd → dd < σ'.n → m ≠ dd → σ'.h m = bl intRow 1 (Fr.rv (some (n, d))).mag → σ'.h dd = bl intRow 1 (Fr.rv (some (n, d))).den → K (.agg (qRow ⟨Fr.rv (some (n, d)), m, dd⟩)) e σ') :
    ACall Tryz.prog 107 [ratP n d] e σ K := by
  have hl := hx.2.2
  unfold qRow at h
  simp only [Fr.rv] at h
  unfold ratP
  refine ACall.bareW Tryz.func107 rfl Tryz.ntmps107 Tryz.results107 rfl rfl rfl ?_
  simp -implicitDefEqProofs (disch := (first | omega | (simp only [go_sem] <;> omega) | fail)) only [go_sem, simprocAttr]
  refine Sat.drawnU [4, 9, 10, 11] (.one 4 (.one 9 (.one 10 (.one 11 .leaf)))) mixed (by kernel_rfl) ?_
  simp -implicitDefEqProofs (disch := (first | omega | (simp only [go_sem] <;> omega) | fail)) only [go_sem, simprocAttr]
  refine fewer_own n (by have := hl.1; omega) _ _ _ fun σ1 k hO hk hkn hB => ?_
  have hn1 := hO.le (k := σ.n + 1) (by first | omega | (simp -implicitDefEqProofs (disch := (first | omega | (simp only [go_sem] <;> omega) | fail)) only [go_sem, simprocAttr]; omega))
  have hb0 := hO.get (k := σ.n) (by first | omega | (simp -implicitDefEqProofs (disch := (first | omega | (simp only [go_sem] <;> omega) | fail)) only [go_sem, simprocAttr]; omega)) (by simp -implicitDefEqProofs (disch := (first | omega | (simp only [go_sem] <;> omega) | fail)) only [go_sem, simprocAttr]; rfl)
  have hO' : Old σ σ1 := Old.trans (by simp -implicitDefEqProofs (disch := (first | omega | (simp only [go_sem] <;> omega) | fail)) only [go_sem, simprocAttr]) hO
  have hk' : σ.n + 1 ≤ k := Nat.le_trans (by first | omega | (simp -implicitDefEqProofs (disch := (first | omega | (simp only [go_sem] <;> omega) | fail)) only [go_sem, simprocAttr]; omega)) hk
  clear hO hk
  simp -implicitDefEqProofs (disch := (first | omega | (simp only [go_sem] <;> omega) | fail)) only [go_sem, simprocAttr, hb0]
  refine clone_own (limbs d) (by have := hl.2; omega) _ _ _ fun σ2 j hO2 hj hjn hD => ?_
  have hn2 := hO2.le (k := σ1.n) (by first | omega | (simp -implicitDefEqProofs (disch := (first | omega | (simp only [go_sem] <;> omega) | fail)) only [go_sem, simprocAttr]; omega))
  have hc0 := hO2.get (k := σ.n) (by first | omega | (simp -implicitDefEqProofs (disch := (first | omega | (simp only [go_sem] <;> omega) | fail)) only [go_sem, simprocAttr]; omega)) (by simp -implicitDefEqProofs (disch := (first | omega | (simp only [go_sem] <;> omega) | fail)) only [go_sem, simprocAttr, hb0]; rfl)
  have hcB := hO2.get (k := k) (by first | omega | (simp -implicitDefEqProofs (disch := (first | omega | (simp only [go_sem] <;> omega) | fail)) only [go_sem, simprocAttr]; omega)) (by simp -implicitDefEqProofs (disch := (first | omega | (simp only [go_sem] <;> omega) | fail)) only [go_sem, simprocAttr, hB]; rfl)
  have hO2' : Old σ σ2 := Old.trans (by simp -implicitDefEqProofs (disch := (first | omega | (simp only [go_sem] <;> omega) | fail)) only [go_sem, simprocAttr, hO']) hO2
  have hj' : σ1.n ≤ j := Nat.le_trans (by first | omega | (simp -implicitDefEqProofs (disch := (first | omega | (simp only [go_sem] <;> omega) | fail)) only [go_sem, simprocAttr]; omega)) hj
  clear hO2 hj
  simp -implicitDefEqProofs (disch := (first | omega | (simp only [go_sem] <;> omega) | fail)) only [go_sem, simprocAttr, hc0]
  exact h _ k j (by simp -implicitDefEqProofs (disch := (first | omega | (simp only [go_sem] <;> omega) | fail)) only [go_sem, simprocAttr, hO2']) (by omega) (by first | omega | (simp -implicitDefEqProofs (disch := (first | omega | (simp only [go_sem] <;> omega) | fail)) only [go_sem, simprocAttr]; omega)) (by omega) (by first | omega | (simp -implicitDefEqProofs (disch := (first | omega | (simp only [go_sem] <;> omega) | fail)) only [go_sem, simprocAttr]; omega)) (by omega) (by simp -implicitDefEqProofs (disch := (first | omega | (simp only [go_sem] <;> omega) | fail)) only [go_sem, simprocAttr, hcB]) (by simp -implicitDefEqProofs (disch := (first | omega | (simp only [go_sem] <;> omega) | fail)) only [go_sem, simprocAttr, hD])

set_option maxRecDepth 100000 in
set_option maxHeartbeats 1000000 in
theorem stores_own (v : List Fr) (hok : ∀ x ∈ v, x.ok) (hv : v.length ≤ 2000000) (e : Env) (σ : St) (K : KT)
    (h : v.all Option.isSome = true → ∀ σ' k T, Old σ σ' → T.map QT.r = v.map Fr.rv → QB σ' σ.n σ'.n k T → K (.tup [.os k 0 v.length, .lit (.bool true)]) e σ')
    (h' : v.all Option.isSome = false → ∀ σ', Old σ σ' → K (.tup [.lit (.slice none 0 0), .lit (.bool false)]) e σ') : ACall Tryz.prog 54 [sl frRow v] e σ K := by
  refine ACall.bareW Tryz.func54 rfl Tryz.ntmps54 Tryz.results54 rfl rfl rfl ?_
  simp -implicitDefEqProofs (disch := (first | omega | (simp only [go_sem] <;> omega) | fail)) only [go_sem, simprocAttr]
  refine Sat.deep σ.n 3 ((List.replicate v.length (none : Option RV)).map ratRowO) (by simp -implicitDefEqProofs (disch := (first | omega | (simp only [go_sem] <;> omega) | fail)) only [go_sem, simprocAttr]) ?_
  refine Sat.loopW (fun (t : Nat) e' σ' => ∃ (i k : Nat) (R : List (List AV)) (T : List QT), t = v.length - i ∧ i ≤ v.length ∧ e' 10 = sl frRow v ∧ e' 11 = .lit (.int .i64 v.length) ∧ e' 12 = .lit (.int .i64 (i : Nat)) ∧ e' 4 = .os k 0 v.length ∧
    k < σ'.n ∧ σ'.h k = .deep 3 R ∧ Old σ σ' ∧ R.length = v.length ∧ (∀ row ∈ R, row.length = 3) ∧ R.take i = T.map qRow ∧ T.map QT.r = (v.take i).map Fr.rv ∧ QOk σ' σ.n σ'.n k T ∧ (v.take i).all Option.isSome = true) (fun t => t) v.length rfl ?_ ?_
  · simp -implicitDefEqProofs (disch := (first | omega | (simp only [go_sem] <;> omega) | fail)) only [go_sem, simprocAttr]
    refine ⟨0, σ.n, (List.replicate v.length (none : Option RV)).map ratRowO, [], by omega, by omega, rfl, rfl, by omega, by simp -implicitDefEqProofs (disch := (first | omega | (simp only [go_sem] <;> omega) | fail)) only [go_sem, simprocAttr], by simp, fun row hr => ?_, by simp, by simp, ⟨by simp, by simp, by omega, (by first | omega | (simp -implicitDefEqProofs (disch := (first | omega | (simp only [go_sem] <;> omega) | fail)) only [go_sem, simprocAttr]; omega))⟩, by simp⟩
    obtain ⟨x, hx, rfl⟩ := List.mem_map.1 hr
    cases x <;> rfl
  rintro t e1 σ1 ⟨i, k, R, T, rfl, hi, h10, h11, h12, h4, hkn, hB, hO, hR, hR3, hT, hTl, hQ, hA⟩
  have hOn := hO.1
  have hTn : T.length = i := by have := congrArg List.length hTl; simpa [Nat.min_eq_left hi] using this
  by_cases hlt : i < v.length
  · have hlt' : (i : Int) < v.length := by omega
    have hx := getD_elem v i hlt default
    cases hfr : v[i] with
    | none =>
      have hno : v.all Option.isSome = false := by
        cases hall : v.all Option.isSome with
        | false => rfl
        | true =>
          rw [List.all_eq_true] at hall
          have := hall _ (List.getElem_mem hlt)
          rw [hfr] at this; simp at this
      have hx' : frRow (v.getD i default) = [.lit (.pointer none)] := by rw [hx, hfr]; rfl
      simp -implicitDefEqProofs (disch := (first | omega | (simp only [go_sem] <;> omega) | fail)) only [go_sem, simprocAttr, h10, h11, h12, h4, hlt', hx']
      exact h' hno _ hO
    | some x =>
      obtain ⟨n, d⟩ := x
      have hx' : frRow (v.getD i default) = [ratP n d] := by rw [hx, hfr]; rfl
      unfold ratP at hx'
      simp -implicitDefEqProofs (disch := (first | omega | (simp only [go_sem] <;> omega) | fail)) only [go_sem, simprocAttr, h10, h11, h12, h4, hlt', hx']
      refine callF.plain (store_own n d (by have := hok _ (List.getElem_mem hlt); rw [hfr] at this; exact this) _ _ _ fun σ2 m d2 hO2 hm hmn hd hdn hmd hM hD => ?_)
      have hB2 := hO2.get hkn hB
      have hkn2 := hO2.le hkn
      have hO' := hO.trans hO2
      have hdr := deep_drop hR3 i
      have hk1 := hQ.id1
      have hsame : ∀ j, j ≠ k → ∀ B, (σ2.put k B).h j = σ2.h j := fun j hj B => by simp [St.put, hj]
      obtain ⟨x, hxe⟩ : ∃ x, Fr.rv (some (n, d)) = x := ⟨_, rfl⟩
      rw [hxe] at hM hD ⊢
      rw [qRow_eq]
      simp -implicitDefEqProofs (disch := (first | omega | (simp only [go_sem] <;> omega) | fail)) only [go_sem, simprocAttr, h10, h11, h12, h4, hB2, wrap_i64, hdr]
      refine ⟨v.length - (i + 1), by omega, i + 1, k, R.set i (qRow ⟨x, m, d2⟩), T ++ [⟨x, m, d2⟩], rfl, by omega, rfl, rfl, by omega, ?_, by simp -implicitDefEqProofs (disch := (first | omega | (simp only [go_sem] <;> omega) | fail)) only [go_sem, simprocAttr, hO'], by simpa using hR, deep_set_len hR3 _ rfl, ?_, ?_, ?_, ?_⟩
      · rw [qRow_eq]; simp -implicitDefEqProofs (disch := (first | omega | (simp only [go_sem] <;> omega) | fail)) only [go_sem, simprocAttr]
      · rw [deep_step (by omega) (by simpa using hTn) hT rfl]; simp
      · rw [List.take_succ_eq_append_getElem hlt]; simp [hTl, hfr, hxe]
      · refine (hQ.congr fun u hu => ?_).snoc hm hmn hd hdn hmd ?_ ?_
        · obtain ⟨a, b, c⟩ := hQ.each u hu
          rw [hsame _ a.2.2, hsame _ b.2.2]
          exact ⟨hO2.2 _ a.2.1, hO2.2 _ b.2.1⟩
        · rw [hsame _ (by have : m ≠ k := by omega
                          exact this)]; exact hM
        · rw [hsame _ (by have : d2 ≠ k := by omega
                          exact this)]; exact hD
      · rw [List.take_succ_eq_append_getElem hlt, List.all_append, hA]
        simp [hfr]
  · have hlt' : ¬ (i : Int) < v.length := by omega
    have hie : i = v.length := by omega
    subst hie
    rw [List.take_of_length_le (by omega)] at hT
    rw [List.take_of_length_le (by omega)] at hTl hA
    simp -implicitDefEqProofs (disch := (first | omega | (simp only [go_sem] <;> omega) | fail)) only [go_sem, simprocAttr, h10, h11, h12, h4, hlt']
    exact h hA _ k T hO hTl ⟨hQ, by rw [hB, hT], Nat.le_refl _⟩
end Go.Proofs.Qqz
namespace Go.Proofs.Qqz
open Go

theorem QB.low {σ : St} {lo lo' hi id : Nat} {T : List QT} (h : QB σ lo hi id T) (h1 : lo' ≤ lo) : QB σ lo' hi id T := ⟨h.ok.mono h1 (Nat.le_refl _), h.rows, h.n⟩

/-- A list and true, or nothing and false. -/
def resL : Option (List RV) → AV
  | some l => sl ratRow l
  | none => .ps []
def resQ : Option (List RV) → List RV
  | some l => l
  | none => []
theorem resL_eq (o : Option (List RV)) : resL o = sl ratRow (resQ o) := by cases o <;> rfl
def resV (o : Option (List RV)) : AV := .tup [resL o, .lit (.bool o.isSome)]
@[go_sem] theorem nlV_resL (o : Option (List RV)) (k : Nat) : nlV (k + 1) (resL o) = resL o := by cases o <;> rfl
def GB (σ : St) (lo hi : Nat) (o : Option (List RV)) (x : AV) : Prop :=
  match o with
  | none => x = .lit (.slice none 0 0)
  | some l => ∃ k T, x = .os k 0 l.length ∧ T.map QT.r = l ∧ QB σ lo hi k T
theorem GB.noPs {σ : St} {lo hi : Nat} {o : Option (List RV)} {x : AV} (h : GB σ lo hi o x) : NoPs x := by
  cases o with
  | none => rw [show x = _ from h]; exact .lit
  | some l => obtain ⟨k, T, rfl, _⟩ := h; exact .os
theorem GB.congr {σ σ' : St} {lo hi : Nat} {o : Option (List RV)} {x : AV} (h : GB σ lo hi o x) (hn : σ.n ≤ σ'.n) (hs : ∀ k, lo ≤ k → k < hi → NoPsB (σ.h k) → σ'.h k = σ.h k) : GB σ' lo hi o x := by
  cases o with
  | none => exact h
  | some l => obtain ⟨k, T, h1, h2, h3⟩ := h; exact ⟨k, T, h1, h2, h3.congr hn hs⟩
theorem GB.low {σ : St} {lo lo' hi : Nat} {o : Option (List RV)} {x : AV} (h : GB σ lo hi o x) (h1 : lo' ≤ lo) : GB σ lo' hi o x := by
  cases o with
  | none => exact h
  | some l => obtain ⟨k, T, h2, h3, h4⟩ := h; exact ⟨k, T, h2, h3, h4.low h1⟩

def pullOnO (v : SV) (q : List RV) (joint : Int) : Option (List RV) :=
  if densB v q = true ∧ (0 ≤ joint ∧ joint < v.joints.length) ∧ (pullF v (frsOf q) joint).1.isSome = true ∧ (pullF v (frsOf q) joint).2.isSome = true
  then some [(pullF v (frsOf q) joint).1.rv, (pullF v (frsOf q) joint).2.rv] else none
theorem pullOnV_eq (v : SV) (q : List RV) (joint : Int) : pullOnV v q joint = resV (pullOnO v q joint) := by
  unfold pullOnV pullOnO
  split <;> rfl

set_option maxRecDepth 100000 in
set_option maxHeartbeats 1000000 in
theorem pullOn_own (v : SV) (q : List RV) (joint : Int) (hs : ∀ j ∈ v.joints, j.name.size ≤ 1000000000) (hjn : v.joints.length ≤ 2000000) (hq : q.length ≤ 2000000) (e : Env) (σ : St) (K : KT)
    (h0 : ∀ σ' x, Old σ σ' → GB σ' σ.n σ'.n (pullOnO v q joint) x → K (.tup [x, .lit (.bool (pullOnO v q joint).isSome)]) e σ') :
    ACall Tryz.prog 15 [structV v, sl ratRow q, .lit (.int .i64 joint)] e σ K := by
  have h : ∀ l, pullOnO v q joint = some l → ∀ σ' k T, Old σ σ' → T.map QT.r = l → QB σ' σ.n σ'.n k T → K (.tup [.os k 0 l.length, .lit (.bool true)]) e σ' := fun l hl σ' k T h1 h2 h3 => by
    rw [hl] at h0
    exact h0 σ' _ h1 ⟨k, T, rfl, h2, h3⟩
  have h' : pullOnO v q joint = none → ∀ σ', Old σ σ' → K (.tup [.lit (.slice none 0 0), .lit (.bool false)]) e σ' := fun hn σ' h1 => by
    rw [hn] at h0
    exact h0 σ' _ h1 rfl
  clear h0
  unfold structV
  refine ACall.bareW Tryz.func15 rfl Tryz.ntmps15 Tryz.results15 rfl rfl rfl ?_
  simp -implicitDefEqProofs (disch := (first | omega | (simp only [go_sem] <;> omega) | fail)) only [go_sem, simprocAttr]
  refine callF.plain ?_
  refine ACall.eq_args (l' := [.ptr σ.n 0 0, sl ratRow q]) (by simp -implicitDefEqProofs (disch := (first | omega | (simp only [go_sem] <;> omega) | fail)) only [go_sem, simprocAttr]) ?_
  refine densities_ok v q hs hq σ.n _ _ (by simp -implicitDefEqProofs (disch := (first | omega | (simp only [go_sem] <;> omega) | fail)) only [go_sem, simprocAttr]; omega) (by simp -implicitDefEqProofs (disch := (first | omega | (simp only [go_sem] <;> omega) | fail)) only [go_sem, simprocAttr]; rfl) _ ?_
  unfold pullOnO at h h'
  cases hd : densB v q with
  | false =>
    have h' := h' (if_neg (by rw [hd]; simp))
    simp -implicitDefEqProofs (disch := (first | omega | (simp only [go_sem] <;> omega) | fail)) only [go_sem, simprocAttr]
    exact h' _ (by simp -implicitDefEqProofs (disch := (first | omega | (simp only [go_sem] <;> omega) | fail)) only [go_sem, simprocAttr])
  | true =>
    obtain ⟨F, hl, hv⟩ := densB_facts hd
    by_cases h1 : joint < 0
    · have h' := h' (if_neg (by omega))
      simp -implicitDefEqProofs (disch := (first | omega | (simp only [go_sem] <;> omega) | fail)) only [go_sem, simprocAttr, h1]
      exact h' _ (by simp -implicitDefEqProofs (disch := (first | omega | (simp only [go_sem] <;> omega) | fail)) only [go_sem, simprocAttr])
    · by_cases h2 : (v.joints.length : Int) ≤ joint
      · have h' := h' (if_neg (by omega))
        simp -implicitDefEqProofs (disch := (first | omega | (simp only [go_sem] <;> omega) | fail)) only [go_sem, simprocAttr, h1, h2]
        exact h' _ (by simp -implicitDefEqProofs (disch := (first | omega | (simp only [go_sem] <;> omega) | fail)) only [go_sem, simprocAttr])
      · simp -implicitDefEqProofs (disch := (first | omega | (simp only [go_sem] <;> omega) | fail)) only [go_sem, simprocAttr, h1, h2]
        refine callF.plain ?_
        refine ACall.eq_args (l' := [.ptr σ.n 0 0, sl frRow (q.map RV.fr), .lit (.int .i64 joint)]) (by simp -implicitDefEqProofs (disch := (first | omega | (simp only [go_sem] <;> omega) | fail)) only [go_sem, simprocAttr]) ?_
        refine pull_ok v F (q.map RV.fr) (by simpa using hl) (fun x hx => by obtain ⟨r, _, rfl⟩ := List.mem_map.1 hx; exact fr_ok r) joint σ.n _ _ (by first | omega | (simp -implicitDefEqProofs (disch := (first | omega | (simp only [go_sem] <;> omega) | fail)) only [go_sem, simprocAttr]; omega)) (by simp -implicitDefEqProofs (disch := (first | omega | (simp only [go_sem] <;> omega) | fail)) only [go_sem, simprocAttr]; rfl) _ ?_
        rw [frsOf_eq]
        have hp := pullF_ok F q joint
        obtain ⟨px, hpx⟩ : ∃ px, (pullF v (frsOf q) joint).1 = px := ⟨_, rfl⟩
        obtain ⟨py, hpy⟩ : ∃ py, (pullF v (frsOf q) joint).2 = py := ⟨_, rfl⟩
        rw [hpx, hpy] at hp
        rw [hpx, hpy]
        simp -implicitDefEqProofs (disch := (first | omega | (simp only [go_sem] <;> omega) | fail)) only [go_sem, simprocAttr]
        refine callF.fz [σ.n + 1] ?_
        refine ACall.eq_args (l' := [sl frRow [px, py]]) (by simp -implicitDefEqProofs (disch := (first | omega | (simp only [go_sem] <;> omega) | fail)) only [go_sem, simprocAttr]; rfl) ?_
        refine stores_own [px, py] (by intro x hx; simp at hx; rcases hx with rfl | rfl; exact hp.1; exact hp.2) (by simp) _ _ _ (fun hall σ1 k T hO hT hQ => ?_) (fun hall σ1 hO => ?_)
        · have h := h [px.rv, py.rv] (by rw [hpx, hpy, if_pos]; simp at hall; exact ⟨hd, ⟨by omega, by omega⟩, hall⟩)
          simp -implicitDefEqProofs (disch := (first | omega | (simp only [go_sem] <;> omega) | fail)) only [go_sem, simprocAttr]
          exact h σ1 k T (Old.trans (by simp -implicitDefEqProofs (disch := (first | omega | (simp only [go_sem] <;> omega) | fail)) only [go_sem, simprocAttr]) hO) hT (hQ.low (by first | omega | (simp -implicitDefEqProofs (disch := (first | omega | (simp only [go_sem] <;> omega) | fail)) only [go_sem, simprocAttr]; omega)))
        · have h' := h' (by rw [hpx, hpy, if_neg]; simp at hall; rintro ⟨_, _, g1, g2⟩; rw [hall g1] at g2; cases g2)
          simp -implicitDefEqProofs (disch := (first | omega | (simp only [go_sem] <;> omega) | fail)) only [go_sem, simprocAttr]
          exact h' σ1 (Old.trans (by simp -implicitDefEqProofs (disch := (first | omega | (simp only [go_sem] <;> omega) | fail)) only [go_sem, simprocAttr]) hO)
end Go.Proofs.Qqz
namespace Go.Proofs.Qqz
open Go

theorem frz_deep {σ : St} {id wd off len : Nat} {rows : List (List AV)} (h : σ.h id = .deep wd rows) (hl : off + len ≤ rows.length) (f : Nat) (top : Bool) : frz 0 σ (f + 1) top (.os id off len) = .ps (((rows.drop off).take len).map fun row => row.map (frz 0 σ f false)) := by
  simp only [frz]
  rw [if_neg (by omega), h]
  simp [hl]
theorem frz_bl {α : Type} {σ : St} {id wd : Nat} {g : α → List AV} {l : List α} (h : σ.h id = bl g wd l) (f : Nat) (top : Bool) : frz 0 σ (f + 1) top (.os id 0 l.length) = sl g l := by
  simp only [frz]
  rw [if_neg (by omega), h]
  simp only [bl, sl, List.length_map, Nat.zero_add, Nat.le_refl, if_true, List.drop_zero]
  rw [List.take_of_length_le (by simp)]
theorem frz_ownS {σ : St} {lo hi a b : Nat} {v : SV} (h : SB σ lo hi a b v) : frz 0 σ 6 true (ownS v a b) = structV v := by
  unfold ownS structV
  show AV.agg [frz 0 σ (4 + 1) true _, frz 0 σ (4 + 1) true _] = _
  rw [frz_bl h.js, frz_bl h.ms]
theorem frz_Q {σ : St} {lo hi k : Nat} {T : List QT} {q : List RV} (h : QB σ lo hi k T) (hT : T.map QT.r = q) : frz 0 σ 6 true (.os k 0 q.length) = sl ratRow q := by
  subst hT
  have e1 : ∀ t ∈ T, (qRow t).map (frz 0 σ 5 false) = ratRow t.r := by
    intro t ht
    obtain ⟨a, b, c, d, e⟩ := h.ok.each t ht
    have f1 := frz_bl d 4 false
    have f2 := frz_bl e 4 false
    rw [qRow_eq, ratRow_eq]
    simp only [List.map_cons, List.map_nil, f1, f2]
    rfl
  rw [frz_deep h.rows (by simp) 5 true]
  simp only [List.length_map, List.drop_zero, sl]
  rw [List.take_of_length_le (by simp), List.map_map, List.map_map]
  congr 1
  exact List.map_congr_left fun t ht => e1 t ht

theorem SB.congr {σ σ' : St} {lo hi a b : Nat} {v : SV} (h : SB σ lo hi a b v) (hn : σ.n ≤ σ'.n) (hs : ∀ k, lo ≤ k → k < hi → σ'.h k = σ.h k) : SB σ' lo hi a b v :=
  ⟨h.a1, h.a2, h.b1, h.b2, h.ab, by rw [hs _ h.a1 h.a2]; exact h.js, by rw [hs _ h.b1 h.b2]; exact h.ms, Nat.le_trans h.n hn⟩
theorem SB.old {σ σ' : St} {lo hi a b : Nat} {v : SV} (h : SB σ lo hi a b v) (hO : Old σ σ') : SB σ' lo hi a b v :=
  h.congr hO.1 fun k _ hk => hO.2 k (Nat.lt_of_lt_of_le hk h.n)
theorem QB.old {σ σ' : St} {lo hi k : Nat} {T : List QT} (h : QB σ lo hi k T) (hO : Old σ σ') : QB σ' lo hi k T :=
  h.congr hO.1 fun k _ hk _ => hO.2 k (Nat.lt_of_lt_of_le hk h.n)

theorem GB.old {σ σ' : St} {lo hi : Nat} {o : Option (List RV)} {x : AV} (h : GB σ lo hi o x) (hO : Old σ σ') (hh : hi ≤ σ.n) : GB σ' lo hi o x :=
  h.congr hO.1 fun k _ hk _ => hO.2 k (Nat.lt_of_lt_of_le hk hh)

set_option maxRecDepth 100000 in
set_option maxHeartbeats 1000000 in
theorem eqG_ok (o : Option (List RV)) (hs : smallB (resQ o)) {lo hi : Nat} {x : AV} (e : Env) (σ : St) (hG : GB σ lo hi o x) (K : KT) (h : K (.lit (.bool true)) e σ) : ACall Tryz.prog 16 [nlV 3 x, nlV 3 (resL o)] e σ K := by
  cases o with
  | none =>
    rw [show x = _ from hG]
    exact eqRats_ok [] (by simp) (by simp) _ _ _ h
  | some l =>
    obtain ⟨k, T, rfl, hT, hQ⟩ := hG
    refine ACall.lendP ?_
    refine ACall.eq_args (l' := [sl ratRow l, sl ratRow l]) ?_ (eqRats_ok l hs.1 hs.2 _ _ _ ⟨.lit, h⟩)
    show [frz 0 σ 6 true (.os k 0 l.length), frz 0 σ 6 true (sl ratRow l)] = _
    rw [frz_Q hQ hT]; rfl

def markO (k : Int) (o : Option (List RV)) : Option (List RV) := o.map (markQ k)
theorem markQ_len (k : Int) (q : List RV) : (markQ k q).length = q.length := by simp [markQ]

set_option maxRecDepth 100000 in
set_option maxHeartbeats 1000000 in
theorem markG_ok (o : Option (List RV)) (hs : smallB (resQ o)) (k0 : Int) (h0 : 0 ≤ k0) (h1 : k0 + 4000001 * (resQ o).length ≤ 1000000000000000) {lo hi : Nat} {x : AV} (e : Env) (σ : St) (hG : GB σ lo hi o x) (K : KT)
    (h : ∀ σ', σ'.n = σ.n → (∀ k, k < lo ∨ hi ≤ k → σ'.h k = σ.h k) → GB σ' lo hi (markO k0 o) x → K (.lit (.int .i64 (kAt k0 (resQ o) (resQ o).length))) e σ') : ACall Tryz.prog 19 [nlV 3 x, .lit (.int .i64 k0)] e σ K := by
  cases o with
  | none =>
    rw [show x = _ from hG]
    exact markRats_nil k0 _ _ _ (h σ rfl (fun _ _ => rfl) hG)
  | some l =>
    obtain ⟨k, T, rfl, hT, hQ⟩ := hG
    subst hT
    have := markRats_own T hs k0 h0 (by simpa [resQ] using h1) lo hi k e σ hQ K fun σ' T' g1 g2 g3 g4 => by
      have := h σ' g1 g2 ⟨k, T', by simp [markQ], g4, g3⟩
      simpa [resQ] using this
    simpa [nlV] using this

set_option maxRecDepth 100000 in
set_option maxHeartbeats 1000000 in
theorem heldG_ok (o : Option (List RV)) (hs : smallB (resQ o)) (k0 : Int) (h0 : 0 ≤ k0) (h1 : k0 + 4000001 * (resQ o).length ≤ 1000000000000000) {lo hi : Nat} {x : AV} (e : Env) (σ : St) (hG : GB σ lo hi (markO k0 o) x) (K : KT)
    (h : K (.lit (.int .i64 (kAt k0 (resQ o) (resQ o).length))) e σ) : ACall Tryz.prog 20 [nlV 3 x, .lit (.int .i64 k0)] e σ K := by
  cases o with
  | none =>
    rw [show x = _ from hG]
    exact heldRats_ok [] hs k0 h0 h1 _ _ _ h
  | some l =>
    obtain ⟨k, T, rfl, hT, hQ⟩ := hG
    refine ACall.lendP ?_
    refine ACall.eq_args (l' := [sl ratRow (markQ k0 l), .lit (.int .i64 k0)]) ?_ (heldRats_ok l hs k0 h0 h1 _ _ _ ⟨.lit, h⟩)
    show [frz 0 σ 6 true (.os k 0 (markQ k0 l).length), frz 0 σ 6 true (.lit (.int .i64 k0))] = _
    rw [frz_Q hQ hT]; rfl

set_option maxRecDepth 100000 in
set_option maxHeartbeats 1000000 in
theorem eqStructG_ok (v : SV) (h1 : v.joints.length ≤ 2000000) (h2 : v.members.length ≤ 2000000) {lo hi a b : Nat} (e : Env) (σ : St) (hS : SB σ lo hi a b v) (K : KT) (h : K (.lit (.bool true)) e σ) : ACall Tryz.prog 17 [ownS v a b, structV v] e σ K := by
  refine ACall.lendP ?_
  refine ACall.eq_args (l' := [structV v, structV v]) ?_ (eqStruct_ok v h1 h2 _ _ _ ⟨.lit, h⟩)
  show [frz 0 σ 6 true (ownS v a b), frz 0 σ 6 true (structV v)] = _
  rw [frz_ownS hS]; rfl
theorem kAt_le' {k : Int} {q : List RV} (hq : ∀ x ∈ q, toRat_pre x) : kAt k q q.length ≤ k + 4000001 * q.length := kAt_le hq _ (Nat.le_refl _)
theorem SB.low {σ : St} {lo lo' hi a b : Nat} {v : SV} (h : SB σ lo hi a b v) (h1 : lo' ≤ lo) : SB σ lo' hi a b v :=
  ⟨Nat.le_trans h1 h.a1, h.a2, Nat.le_trans h1 h.b1, h.b2, h.ab, h.js, h.ms, h.n⟩
theorem ratRow_pre {x : Fr} (h : x.ok) : toRat_pre x.rv := by
  have := rv_lens h
  exact ⟨by omega, by omega⟩

set_option maxRecDepth 100000 in
set_option maxHeartbeats 1000000 in
theorem eqIntsG_ok (l : List Int) (hl : l.length ≤ 2000000) {k : Nat} (e : Env) (σ : St) (hB : σ.h k = bl intRow 1 l) (K : KT) (h : K (.lit (.bool true)) e σ) : ACall Tryz.prog 24 [.os k 0 l.length, sl intRow l] e σ K := by
  refine ACall.lendP ?_
  refine ACall.eq_args (l' := [sl intRow l, sl intRow l]) ?_ (eqInts_ok l hl _ _ _ ⟨.lit, h⟩)
  show [frz 0 σ (5 + 1) true (.os k 0 l.length), frz 0 σ 6 true (sl intRow l)] = _
  rw [frz_bl hB]; rfl

end Go.Proofs.Qqz
