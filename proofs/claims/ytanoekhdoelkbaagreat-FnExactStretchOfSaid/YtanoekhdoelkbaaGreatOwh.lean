/- Contracts: a fraction handed back by value, its lists in blocks of the caller's own; the stretch of a member. -/
import Derived.Test.YtanoekhdoelkbaaGreatKh
import Derived.Test.YtanoekhdoelkbaaGreatStk
set_option linter.unusedSimpArgs false
set_option linter.unusedVariables false
namespace Go.Proofs.Qqz
open Go

def zeroRat : AV := .agg [.lit (.bool false), .lit (.slice none 0 0), .lit (.slice none 0 0)]
/-- A fraction by value whose two lists lie in own blocks, or the zero value. -/
def RB (σ : St) (lo hi : Nat) (r : RV) (x : AV) : Prop :=
  (r = Fr.rv none ∧ x = zeroRat) ∨
  ∃ m d, x = .agg (qRow ⟨r, m, d⟩) ∧ (lo ≤ m ∧ m < hi) ∧ (lo ≤ d ∧ d < hi) ∧ m ≠ d ∧ σ.h m = bl intRow 1 r.mag ∧ σ.h d = bl intRow 1 r.den ∧ hi ≤ σ.n
theorem RB.noPs {σ : St} {lo hi : Nat} {r : RV} {x : AV} (h : RB σ lo hi r x) : NoPs x := by
  rcases h with ⟨_, rfl⟩ | ⟨m, d, rfl, _⟩
  · exact .agg (by intro a ha; simp at ha; rcases ha with rfl | rfl <;> exact .lit)
  · exact .agg (by intro a ha; simp [qRow] at ha; rcases ha with rfl | rfl | rfl; exact .lit; exact .os; exact .os)
theorem bl_noPs (l : List Int) : NoPsB (bl intRow 1 l) := by
  intro row hr a ha
  obtain ⟨x, _, rfl⟩ := List.mem_map.1 hr
  simp [intRow] at ha; subst ha; exact .lit
theorem RB.congr {σ σ' : St} {lo hi : Nat} {r : RV} {x : AV} (h : RB σ lo hi r x) (hn : σ.n ≤ σ'.n) (hs : ∀ k, lo ≤ k → k < hi → NoPsB (σ.h k) → σ'.h k = σ.h k) : RB σ' lo hi r x := by
  rcases h with h | ⟨m, d, h1, h2, h3, h4, h5, h6, h7⟩
  · exact .inl h
  · refine .inr ⟨m, d, h1, h2, h3, h4, ?_, ?_, Nat.le_trans h7 hn⟩
    · rw [hs m h2.1 h2.2 (by rw [h5]; exact bl_noPs _), h5]
    · rw [hs d h3.1 h3.2 (by rw [h6]; exact bl_noPs _), h6]
theorem RB.low {σ : St} {lo lo' hi hi' : Nat} {r : RV} {x : AV} (h : RB σ lo hi r x) (h1 : lo' ≤ lo) (h2 : hi ≤ hi') (h3 : hi' ≤ σ.n) : RB σ lo' hi' r x := by
  rcases h with h | ⟨m, d, a, b, c, dd, e, f, _⟩
  · exact .inl h
  · exact .inr ⟨m, d, a, ⟨by omega, by omega⟩, ⟨by omega, by omega⟩, dd, e, f, h3⟩
theorem RB.old {σ σ' : St} {lo hi : Nat} {r : RV} {x : AV} (h : RB σ lo hi r x) (hO : Old σ σ') (hh : hi ≤ σ.n) : RB σ' lo hi r x :=
  h.congr hO.1 fun k _ hk _ => hO.2 k (Nat.lt_of_lt_of_le hk hh)
theorem frz_R {σ : St} {lo hi : Nat} {r : RV} {x : AV} (h : RB σ lo hi r x) : frz 0 σ 6 true (nlV 3 x) = ratV r := by
  rcases h with ⟨rfl, rfl⟩ | ⟨m, d, rfl, _, _, _, h5, h6, _⟩
  · rfl
  · rw [qRow_eq]
    show AV.agg [.lit (.bool r.neg), frz 0 σ (4 + 1) true (.os m 0 r.mag.length), frz 0 σ (4 + 1) true (.os d 0 r.den.length)] = _
    rw [frz_bl h5, frz_bl h6]; rfl

set_option maxRecDepth 100000 in
set_option maxHeartbeats 1000000 in
theorem eqR_ok (r : RV) (hr : toRat_pre r) {lo hi : Nat} {x : AV} (e : Env) (σ : St) (hG : RB σ lo hi r x) (K : KT) (h : K (.lit (.bool true)) e σ) : ACall Tryz.prog 36 [nlV 3 x, ratV r] e σ K := by
  refine ACall.lendP ?_
  refine ACall.eq_args (l' := [ratV r, ratV r]) ?_ (eqRat_ok r hr _ _ _ ⟨.lit, h⟩)
  show [frz 0 σ 6 true (nlV 3 x), frz 0 σ 6 true (ratV r)] = _
  rw [frz_R hG]; rfl

set_option maxRecDepth 100000 in
set_option maxHeartbeats 1000000 in
theorem markInts_nil (k0 : Int) (e : Env) (σ : St) (K : KT) (h : K (.lit (.int .i64 k0)) e σ) : ACall Tryz.prog 33 [.ps [], .lit (.int .i64 k0)] e σ K := by
  refine ACall.pureW Tryz.func33 rfl Tryz.ntmps33 Tryz.results33 rfl rfl rfl ?_
  simp -implicitDefEqProofs (disch := (first | omega | (simp only [go_sem] <;> omega) | fail)) only [go_sem, simprocAttr]
  refine Sat.loopW (fun (t : Nat) e' σ' => e' 0 = .ps [] ∧ e' 1 = .lit (.int .i64 k0) ∧ e' 5 = .lit (.int .i64 0) ∧ Old σ σ') (fun t => t) 0 rfl ?_ ?_
  · simp -implicitDefEqProofs (disch := (first | omega | (simp only [go_sem] <;> omega) | fail)) only [go_sem, simprocAttr]
  rintro t e1 σ1 ⟨g0, g1, g5, hO⟩
  simp -implicitDefEqProofs (disch := (first | omega | (simp only [go_sem] <;> omega) | fail)) only [go_sem, simprocAttr, g0, g1, g5, hO]
  exact h

set_option maxRecDepth 100000 in
set_option maxHeartbeats 1000000 in
theorem markBig_own (b : Bool) (l : List Int) (hl : l.length ≤ 2000000) (k0 : Int) (h0 : 0 ≤ k0) (h1 : k0 ≤ 1000000000000000) (id : Nat) (e : Env) (σ : St) (hid : id < σ.n) (hB : σ.h id = bl intRow 1 l) (K : KT)
    (h : ∀ σ', σ.n ≤ σ'.n → (∀ k, k < σ.n → k ≠ id → σ'.h k = σ.h k) → σ'.h id = bl intRow 1 (markI k0 l.length) → K (.lit (.int .i64 (k0 + l.length))) e σ') :
    ACall Tryz.prog 90 [.agg [.lit (.bool b), .os id 0 l.length], .lit (.int .i64 k0)] e σ K := by
  refine ACall.bareW Tryz.func90 rfl Tryz.ntmps90 Tryz.results90 rfl rfl rfl ?_
  simp -implicitDefEqProofs (disch := (first | omega | (simp only [go_sem] <;> omega) | fail)) only [go_sem, simprocAttr]
  refine callF.plain (markInts_own l hl k0 h0 h1 id _ _ (by first | omega | (simp -implicitDefEqProofs (disch := (first | omega | (simp only [go_sem] <;> omega) | fail)) only [go_sem, simprocAttr]; omega)) (by simp -implicitDefEqProofs (disch := (first | omega | (simp only [go_sem] <;> omega) | fail)) only [go_sem, simprocAttr, hB]) _ ?_)
  simp -implicitDefEqProofs (disch := (first | omega | (simp only [go_sem] <;> omega) | fail)) only [go_sem, simprocAttr]
  refine h _ (by first | omega | (simp -implicitDefEqProofs (disch := (first | omega | (simp only [go_sem] <;> omega) | fail)) only [go_sem, simprocAttr]; omega)) (fun k hk hne => ?_) (by simp -implicitDefEqProofs (disch := (first | omega | (simp only [go_sem] <;> omega) | fail)) only [go_sem, simprocAttr])
  simp -implicitDefEqProofs (disch := (first | omega | (simp only [go_sem] <;> omega) | fail)) only [go_sem, simprocAttr]
set_option maxRecDepth 100000 in
set_option maxHeartbeats 1000000 in
theorem markBig_nil (b : Bool) (k0 : Int) (e : Env) (σ : St) (K : KT) (h : K (.lit (.int .i64 k0)) e σ) : ACall Tryz.prog 90 [.agg [.lit (.bool b), .ps []], .lit (.int .i64 k0)] e σ K := by
  refine ACall.pureW Tryz.func90 rfl Tryz.ntmps90 Tryz.results90 rfl rfl rfl ?_
  simp -implicitDefEqProofs (disch := (first | omega | (simp only [go_sem] <;> omega) | fail)) only [go_sem, simprocAttr]
  refine callF.plain (markInts_nil k0 _ _ _ ?_)
  simp -implicitDefEqProofs (disch := (first | omega | (simp only [go_sem] <;> omega) | fail)) only [go_sem, simprocAttr]
  exact h

def markV (k : Int) (r : RV) : RV := ⟨r.neg, markI k r.mag.length, markI (k + r.mag.length) r.den.length⟩
def kR (k : Int) (r : RV) : Int := k + r.mag.length + r.den.length

set_option maxRecDepth 100000 in
set_option maxHeartbeats 1000000 in
theorem markR_ok (r : RV) (hr : toRat_pre r) (k0 : Int) (h0 : 0 ≤ k0) (h1 : k0 ≤ 100000000000000) {lo hi : Nat} {x : AV} (e : Env) (σ : St) (hG : RB σ lo hi r x) (K : KT)
    (h : ∀ σ', σ.n ≤ σ'.n → (∀ k, k < σ.n → (k < lo ∨ hi ≤ k) → σ'.h k = σ.h k) → RB σ' lo hi (markV k0 r) x → K (.lit (.int .i64 (kR k0 r))) e σ') : ACall Tryz.prog 37 [nlV 3 x, .lit (.int .i64 k0)] e σ K := by
  rcases hG with ⟨rfl, rfl⟩ | ⟨m, d, rfl, h2, h3, h4, h5, h6, h7⟩
  · have h := h σ (Nat.le_refl _) (fun _ _ _ => rfl) (.inl ⟨rfl, rfl⟩)
    simp only [kR, Fr.rv, List.length_nil] at h
    show ACall Tryz.prog 37 [.agg [.lit (.bool false), .ps [], .ps []], .lit (.int .i64 k0)] e σ K
    refine ACall.pureW Tryz.func37 rfl Tryz.ntmps37 Tryz.results37 rfl rfl rfl ?_
    simp -implicitDefEqProofs (disch := (first | omega | (simp only [go_sem] <;> omega) | fail)) only [go_sem, simprocAttr]
    refine callF.plain (markBig_nil false k0 _ _ _ ?_)
    simp -implicitDefEqProofs (disch := (first | omega | (simp only [go_sem] <;> omega) | fail)) only [go_sem, simprocAttr]
    refine callF.plain (markInts_nil k0 _ _ _ ?_)
    simp -implicitDefEqProofs (disch := (first | omega | (simp only [go_sem] <;> omega) | fail)) only [go_sem, simprocAttr]
    simpa using h
  · unfold toRat_pre at hr
    rw [qRow_eq]
    show ACall Tryz.prog 37 [.agg [.lit (.bool r.neg), .os m 0 r.mag.length, .os d 0 r.den.length], .lit (.int .i64 k0)] e σ K
    refine ACall.bareW Tryz.func37 rfl Tryz.ntmps37 Tryz.results37 rfl rfl rfl ?_
    simp -implicitDefEqProofs (disch := (first | omega | (simp only [go_sem] <;> omega) | fail)) only [go_sem, simprocAttr]
    refine callF.plain (markBig_own r.neg r.mag hr.1 k0 h0 (by omega) m _ _ (by first | omega | (simp -implicitDefEqProofs (disch := (first | omega | (simp only [go_sem] <;> omega) | fail)) only [go_sem, simprocAttr]; omega)) (by simp -implicitDefEqProofs (disch := (first | omega | (simp only [go_sem] <;> omega) | fail)) only [go_sem, simprocAttr, h5]) _ fun σ1 n1 g1 g2 => ?_)
    have n1' : σ.n + 1 ≤ σ1.n := Nat.le_trans (by first | omega | (simp -implicitDefEqProofs (disch := (first | omega | (simp only [go_sem] <;> omega) | fail)) only [go_sem, simprocAttr]; omega)) n1
    have b1 := (g1 σ.n (by first | omega | (simp -implicitDefEqProofs (disch := (first | omega | (simp only [go_sem] <;> omega) | fail)) only [go_sem, simprocAttr]; omega)) (by omega)).trans (by simp -implicitDefEqProofs (disch := (first | omega | (simp only [go_sem] <;> omega) | fail)) only [go_sem, simprocAttr]; rfl)
    have d1 := (g1 d (by first | omega | (simp -implicitDefEqProofs (disch := (first | omega | (simp only [go_sem] <;> omega) | fail)) only [go_sem, simprocAttr]; omega)) (by omega)).trans (by simp -implicitDefEqProofs (disch := (first | omega | (simp only [go_sem] <;> omega) | fail)) only [go_sem, simprocAttr, h6]; rfl)
    have q1 : ∀ k, k < σ.n → k ≠ m → σ1.h k = σ.h k := fun k hk hne => by
      have := g1 k (by first | omega | (simp -implicitDefEqProofs (disch := (first | omega | (simp only [go_sem] <;> omega) | fail)) only [go_sem, simprocAttr]; omega)) hne
      rw [this]; simp -implicitDefEqProofs (disch := (first | omega | (simp only [go_sem] <;> omega) | fail)) only [go_sem, simprocAttr]
    clear g1 n1
    simp -implicitDefEqProofs (disch := (first | omega | (simp only [go_sem] <;> omega) | fail)) only [go_sem, simprocAttr, b1]
    refine callF.plain (markInts_own r.den hr.2 (k0 + r.mag.length) (by omega) (by omega) d _ _ (by first | omega | (simp -implicitDefEqProofs (disch := (first | omega | (simp only [go_sem] <;> omega) | fail)) only [go_sem, simprocAttr]; omega)) d1 _ ?_)
    simp -implicitDefEqProofs (disch := (first | omega | (simp only [go_sem] <;> omega) | fail)) only [go_sem, simprocAttr]
    refine h _ (by first | omega | (simp -implicitDefEqProofs (disch := (first | omega | (simp only [go_sem] <;> omega) | fail)) only [go_sem, simprocAttr]; omega)) (fun k hk hne => ?_) (.inr ⟨m, d, ?_, h2, h3, h4, ?_, ?_, (by first | omega | (simp -implicitDefEqProofs (disch := (first | omega | (simp only [go_sem] <;> omega) | fail)) only [go_sem, simprocAttr]; omega))⟩)
    · have e1 : ¬ k = d := by omega
      have e2 : ¬ k = m := by omega
      simp -implicitDefEqProofs (disch := (first | omega | (simp only [go_sem] <;> omega) | fail)) only [go_sem, simprocAttr]
      exact q1 k hk e2
    · simp [qRow, markV, markI_len]
    · have e1 : ¬ m = d := h4
      simp -implicitDefEqProofs (disch := (first | omega | (simp only [go_sem] <;> omega) | fail)) only [go_sem, simprocAttr]
      exact g2
    · simp -implicitDefEqProofs (disch := (first | omega | (simp only [go_sem] <;> omega) | fail)) only [go_sem, simprocAttr]; rfl

set_option maxRecDepth 100000 in
set_option maxHeartbeats 1000000 in
theorem heldBig_ok (b : Bool) (k0 : Int) (n : Nat) (hn : n ≤ 2000000) (h0 : 0 ≤ k0) (h1 : k0 ≤ 1000000000000000) (e : Env) (σ : St) (K : KT) (h : K (.lit (.int .i64 (k0 + n))) e σ) : ACall Tryz.prog 91 [.agg [.lit (.bool b), sl intRow (markI k0 n)], .lit (.int .i64 k0)] e σ K := by
  refine ACall.pureW Tryz.func91 rfl Tryz.ntmps91 Tryz.results91 rfl rfl rfl ?_
  simp -implicitDefEqProofs (disch := (first | omega | (simp only [go_sem] <;> omega) | fail)) only [go_sem, simprocAttr]
  refine callF.plain (heldInts_ok k0 n hn h0 h1 _ _ _ ?_)
  have hn1 : ¬ k0 + (n : Int) < 0 := by omega
  simp -implicitDefEqProofs (disch := (first | omega | (simp only [go_sem] <;> omega) | fail)) only [go_sem, simprocAttr, hn1]
  exact h

set_option maxRecDepth 100000 in
set_option maxHeartbeats 1000000 in
theorem heldRat_ok (r : RV) (hr : toRat_pre r) (k0 : Int) (h0 : 0 ≤ k0) (h1 : k0 ≤ 100000000000000) (e : Env) (σ : St) (K : KT) (h : K (.lit (.int .i64 (kR k0 r))) e σ) : ACall Tryz.prog 38 [ratV (markV k0 r), .lit (.int .i64 k0)] e σ K := by
  unfold toRat_pre at hr
  unfold markV
  refine ACall.pureW Tryz.func38 rfl Tryz.ntmps38 Tryz.results38 rfl rfl rfl ?_
  unfold ratV
  simp -implicitDefEqProofs (disch := (first | omega | (simp only [go_sem] <;> omega) | fail)) only [go_sem, simprocAttr]
  refine callF.plain (heldBig_ok r.neg k0 r.mag.length hr.1 h0 (by omega) _ _ _ ?_)
  have hn1 : ¬ k0 + (r.mag.length : Int) < 0 := by omega
  simp -implicitDefEqProofs (disch := (first | omega | (simp only [go_sem] <;> omega) | fail)) only [go_sem, simprocAttr, hn1]
  refine callF.plain (heldInts_ok (k0 + r.mag.length) r.den.length hr.2 (by omega) (by omega) _ _ _ ?_)
  have hn2 : ¬ k0 + (r.mag.length : Int) + (r.den.length : Int) < 0 := by omega
  simp -implicitDefEqProofs (disch := (first | omega | (simp only [go_sem] <;> omega) | fail)) only [go_sem, simprocAttr, hn2]
  exact h

set_option maxRecDepth 100000 in
set_option maxHeartbeats 1000000 in
theorem heldR_ok (r : RV) (hr : toRat_pre r) (k0 : Int) (h0 : 0 ≤ k0) (h1 : k0 ≤ 100000000000000) {lo hi : Nat} {x : AV} (e : Env) (σ : St) (hG : RB σ lo hi (markV k0 r) x) (K : KT)
    (h : K (.lit (.int .i64 (kR k0 r))) e σ) : ACall Tryz.prog 38 [nlV 3 x, .lit (.int .i64 k0)] e σ K := by
  refine ACall.lendP ?_
  refine ACall.eq_args (l' := [ratV (markV k0 r), .lit (.int .i64 k0)]) ?_ (heldRat_ok r hr k0 h0 h1 _ _ _ ⟨.lit, h⟩)
  show [frz 0 σ 6 true (nlV 3 x), frz 0 σ 6 true (.lit (.int .i64 k0))] = _
  rw [frz_R hG]; rfl

set_option maxRecDepth 100000 in
set_option maxHeartbeats 1000000 in
theorem told_own (x : Fr) (hx : x.ok) (e : Env) (σ : St) (K : KT) (h : ∀ σ' y, Old σ σ' → RB σ' σ.n σ'.n x.rv y → K (.tup [y, .lit (.bool x.isSome)]) e σ') : ACall Tryz.prog 88 [frA x] e σ K := by
  refine ACall.bareW Tryz.func88 rfl Tryz.ntmps88 Tryz.results88 rfl rfl rfl ?_
  match x, hx with
  | none, hx =>
    unfold frA
    simp -implicitDefEqProofs (disch := (first | omega | (simp only [go_sem] <;> omega) | fail)) only [go_sem, simprocAttr]
    exact h _ _ (by simp -implicitDefEqProofs (disch := (first | omega | (simp only [go_sem] <;> omega) | fail)) only [go_sem, simprocAttr]) (.inl ⟨rfl, rfl⟩)
  | some (n, d), hx =>
    have hfr : frA (some (n, d)) = ratP n d := rfl
    rw [hfr]
    unfold ratP
    simp -implicitDefEqProofs (disch := (first | omega | (simp only [go_sem] <;> omega) | fail)) only [go_sem, simprocAttr]
    refine callF.plain (store_own n d hx _ _ _ fun σ1 m dd hO h1 h2 h3 h4 h5 h6 h7 => ?_)
    have n1 := hO.le (k := σ.n + 1) (by first | omega | (simp -implicitDefEqProofs (disch := (first | omega | (simp only [go_sem] <;> omega) | fail)) only [go_sem, simprocAttr]; omega))
    have h1' : σ.n + 1 ≤ m := Nat.le_trans (by first | omega | (simp -implicitDefEqProofs (disch := (first | omega | (simp only [go_sem] <;> omega) | fail)) only [go_sem, simprocAttr]; omega)) h1
    have h3' : σ.n + 1 ≤ dd := Nat.le_trans (by first | omega | (simp -implicitDefEqProofs (disch := (first | omega | (simp only [go_sem] <;> omega) | fail)) only [go_sem, simprocAttr]; omega)) h3
    have b0 := hO.get (k := σ.n) (by first | omega | (simp -implicitDefEqProofs (disch := (first | omega | (simp only [go_sem] <;> omega) | fail)) only [go_sem, simprocAttr]; omega)) (by simp -implicitDefEqProofs (disch := (first | omega | (simp only [go_sem] <;> omega) | fail)) only [go_sem, simprocAttr]; rfl)
    have o1 : Old σ σ1 := Old.trans (by simp -implicitDefEqProofs (disch := (first | omega | (simp only [go_sem] <;> omega) | fail)) only [go_sem, simprocAttr]) hO
    clear hO h1 h3
    unfold qRow
    simp -implicitDefEqProofs (disch := (first | omega | (simp only [go_sem] <;> omega) | fail)) only [go_sem, simprocAttr, b0]
    have e1 : ¬ m = σ.n := by omega
    have e2 : ¬ dd = σ.n := by omega
    exact h _ _ (by simp -implicitDefEqProofs (disch := (first | omega | (simp only [go_sem] <;> omega) | fail)) only [go_sem, simprocAttr, o1]) (.inr ⟨m, dd, rfl, ⟨by omega, (by first | omega | (simp -implicitDefEqProofs (disch := (first | omega | (simp only [go_sem] <;> omega) | fail)) only [go_sem, simprocAttr]; omega))⟩, ⟨by omega, (by first | omega | (simp -implicitDefEqProofs (disch := (first | omega | (simp only [go_sem] <;> omega) | fail)) only [go_sem, simprocAttr]; omega))⟩, h5, by simp -implicitDefEqProofs (disch := (first | omega | (simp only [go_sem] <;> omega) | fail)) only [go_sem, simprocAttr, h6], by simp -implicitDefEqProofs (disch := (first | omega | (simp only [go_sem] <;> omega) | fail)) only [go_sem, simprocAttr, h7], (by first | omega | (simp -implicitDefEqProofs (disch := (first | omega | (simp only [go_sem] <;> omega) | fail)) only [go_sem, simprocAttr]; omega))⟩)

/-- The stretch, or none. -/
def strF (v : SV) (d : List RV) (i : Int) : Fr := if movesB v d = true ∧ 0 ≤ i ∧ i < v.members.length then stretchF v d i.toNat else none
theorem strF_eq (v : SV) (d : List RV) (i : Int) : stretchV v d i = .tup [ratV (strF v d i).rv, .lit (.bool (strF v d i).isSome)] := by
  unfold stretchV strF
  split <;> rfl
theorem strF_ok (v : SV) (d : List RV) (i : Int) : (strF v d i).ok := by
  unfold strF
  split
  · rename_i h
    obtain ⟨F, _, _⟩ := movesB_facts h.1
    exact stretchF_ok F d (by omega)
  · trivial

set_option maxRecDepth 100000 in
set_option maxHeartbeats 1000000 in
theorem stretchOf_own (v : SV) (d : List RV) (i : Int) (hs : ∀ j ∈ v.joints, j.name.size ≤ 1000000000) (hd : d.length ≤ 2000000) (e : Env) (σ : St) (K : KT)
    (h : ∀ σ' y, Old σ σ' → RB σ' σ.n σ'.n (strF v d i).rv y → K (.tup [y, .lit (.bool (strF v d i).isSome)]) e σ') : ACall Tryz.prog 35 [structV v, .lit (.int .i64 i), sl ratRow d] e σ K := by
  unfold structV
  refine ACall.bareW Tryz.func35 rfl Tryz.ntmps35 Tryz.results35 rfl rfl rfl ?_
  simp -implicitDefEqProofs (disch := (first | omega | (simp only [go_sem] <;> omega) | fail)) only [go_sem, simprocAttr]
  refine callF.plain ?_
  refine ACall.eq_args (l' := [.ptr σ.n 0 0, sl ratRow d]) (by simp -implicitDefEqProofs (disch := (first | omega | (simp only [go_sem] <;> omega) | fail)) only [go_sem, simprocAttr]) ?_
  refine displacements_ok v d hs hd σ.n _ _ (by simp -implicitDefEqProofs (disch := (first | omega | (simp only [go_sem] <;> omega) | fail)) only [go_sem, simprocAttr]; omega) (by simp -implicitDefEqProofs (disch := (first | omega | (simp only [go_sem] <;> omega) | fail)) only [go_sem, simprocAttr]; rfl) _ (fun hm => ?_) (fun hm L hL1 hL2 => ?_)
  · have hn : strF v d i = none := by unfold strF; rw [if_neg (by rw [hm]; simp)]
    rw [hn] at h
    simp -implicitDefEqProofs (disch := (first | omega | (simp only [go_sem] <;> omega) | fail)) only [go_sem, simprocAttr]
    exact h _ _ (by simp -implicitDefEqProofs (disch := (first | omega | (simp only [go_sem] <;> omega) | fail)) only [go_sem, simprocAttr]) (.inl ⟨rfl, rfl⟩)
  · obtain ⟨F, hdl, hv⟩ := movesB_facts hm
    have hnm := F.nm
    by_cases h1 : i < 0
    · have hn : strF v d i = none := by unfold strF; rw [if_neg (by omega)]
      rw [hn] at h
      simp -implicitDefEqProofs (disch := (first | omega | (simp only [go_sem] <;> omega) | fail)) only [go_sem, simprocAttr, h1]
      exact h _ _ (by simp -implicitDefEqProofs (disch := (first | omega | (simp only [go_sem] <;> omega) | fail)) only [go_sem, simprocAttr]) (.inl ⟨rfl, rfl⟩)
    by_cases h2 : (v.members.length : Int) ≤ i
    · have hn : strF v d i = none := by unfold strF; rw [if_neg (by omega)]
      rw [hn] at h
      simp -implicitDefEqProofs (disch := (first | omega | (simp only [go_sem] <;> omega) | fail)) only [go_sem, simprocAttr, h1, h2]
      exact h _ _ (by simp -implicitDefEqProofs (disch := (first | omega | (simp only [go_sem] <;> omega) | fail)) only [go_sem, simprocAttr]) (.inl ⟨rfl, rfl⟩)
    obtain ⟨n, rfl⟩ : ∃ n : Nat, i = n := ⟨i.toNat, by omega⟩
    have hn : n < v.members.length := by omega
    have hst : strF v d (n : Int) = stretchF v d n := by unfold strF; rw [if_pos ⟨hm, by omega, by omega⟩, Int.toNat_natCast]
    rw [hst] at h
    simp -implicitDefEqProofs (disch := (first | omega | (simp only [go_sem] <;> omega) | fail)) only [go_sem, simprocAttr, h1, h2]
    refine callF.plain ?_
    refine ACall.eq_args (l' := [.ptr σ.n 0 0, .lit (.int .i64 (n : Nat)), sl frRow L]) (by simp -implicitDefEqProofs (disch := (first | omega | (simp only [go_sem] <;> omega) | fail)) only [go_sem, simprocAttr]) ?_
    refine stretch_ok v F d L ⟨hL1, hL2⟩ n hn σ.n _ _ (by simp -implicitDefEqProofs (disch := (first | omega | (simp only [go_sem] <;> omega) | fail)) only [go_sem, simprocAttr]; omega) (by simp -implicitDefEqProofs (disch := (first | omega | (simp only [go_sem] <;> omega) | fail)) only [go_sem, simprocAttr]; rfl) _ ?_
    simp -implicitDefEqProofs (disch := (first | omega | (simp only [go_sem] <;> omega) | fail)) only [go_sem, simprocAttr]
    refine callF.plain (ACall.eq_args (l' := [frA (stretchF v d n)]) (by simp -implicitDefEqProofs (disch := (first | omega | (simp only [go_sem] <;> omega) | fail)) only [go_sem, simprocAttr]) (told_own _ (stretchF_ok F d hn) _ _ _ fun σ1 y hO hR => ?_))
    have n1 := hO.le (k := σ.n + 1 + 1) (by first | omega | (simp -implicitDefEqProofs (disch := (first | omega | (simp only [go_sem] <;> omega) | fail)) only [go_sem, simprocAttr]; omega))
    have b0 := hO.get (k := σ.n + 1) (by first | omega | (simp -implicitDefEqProofs (disch := (first | omega | (simp only [go_sem] <;> omega) | fail)) only [go_sem, simprocAttr]; omega)) (by simp -implicitDefEqProofs (disch := (first | omega | (simp only [go_sem] <;> omega) | fail)) only [go_sem, simprocAttr]; rfl)
    have o1 : Old σ σ1 := Old.trans (by simp -implicitDefEqProofs (disch := (first | omega | (simp only [go_sem] <;> omega) | fail)) only [go_sem, simprocAttr]) hO
    have hR1 := hR.low (lo' := σ.n + 1 + 1) (hi' := σ1.n) (by first | omega | (simp -implicitDefEqProofs (disch := (first | omega | (simp only [go_sem] <;> omega) | fail)) only [go_sem, simprocAttr]; omega)) (Nat.le_refl _) (Nat.le_refl _)
    clear hO hR
    rcases hR1 with ⟨q1, rfl⟩ | ⟨m, dd, rfl, q2, q3, q4, q5, q6, q7⟩
    · unfold zeroRat
      simp -implicitDefEqProofs (disch := (first | omega | (simp only [go_sem] <;> omega) | fail)) only [go_sem, simprocAttr, b0]
      exact h _ _ (by simp -implicitDefEqProofs (disch := (first | omega | (simp only [go_sem] <;> omega) | fail)) only [go_sem, simprocAttr, o1]) (.inl ⟨q1, rfl⟩)
    · unfold qRow
      simp -implicitDefEqProofs (disch := (first | omega | (simp only [go_sem] <;> omega) | fail)) only [go_sem, simprocAttr, b0]
      have e1 : ¬ m = σ.n + 1 := by omega
      have e2 : ¬ dd = σ.n + 1 := by omega
      exact h _ _ (by simp -implicitDefEqProofs (disch := (first | omega | (simp only [go_sem] <;> omega) | fail)) only [go_sem, simprocAttr, o1]) (.inr ⟨m, dd, rfl, ⟨by omega, (by first | omega | (simp -implicitDefEqProofs (disch := (first | omega | (simp only [go_sem] <;> omega) | fail)) only [go_sem, simprocAttr]; omega))⟩, ⟨by omega, (by first | omega | (simp -implicitDefEqProofs (disch := (first | omega | (simp only [go_sem] <;> omega) | fail)) only [go_sem, simprocAttr]; omega))⟩, q4, by simp -implicitDefEqProofs (disch := (first | omega | (simp only [go_sem] <;> omega) | fail)) only [go_sem, simprocAttr, q5], by simp -implicitDefEqProofs (disch := (first | omega | (simp only [go_sem] <;> omega) | fail)) only [go_sem, simprocAttr, q6], (by first | omega | (simp -implicitDefEqProofs (disch := (first | omega | (simp only [go_sem] <;> omega) | fail)) only [go_sem, simprocAttr]; omega))⟩)
end Go.Proofs.Qqz
